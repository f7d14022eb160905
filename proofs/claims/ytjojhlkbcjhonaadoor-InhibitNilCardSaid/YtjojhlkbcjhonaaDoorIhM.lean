/- Walk over layer 23: New of one inhibition. -/
import Derived.Test.YtjojhlkbcjhonaaDoorIhL
import Derived.Deep.AppendLies
namespace Go.Proofs.YtjojhlkbcjhonaaDoor.Ih
open Go.RowKit

attribute [local go_sem] run_store_one

theorem infoRule : (Tryd.prog.info? 90).map (fun i => (i.zero, i.size, i.bytes)) = some (some (.agg #[.nilFunc, .nilFunc, .slice none 0 0]), 3, 40) := by kernel_rfl

/-- Rules of one inhibition in memory. -/
structure RulesAt (w : World) (rb lb xs gs ms xt gt mt eb ec B : Nat) (s t : Mat) (cn : ByteArray) : Prop where
  cell : ∃ cap, w.cell? ⟨rb, 0, none⟩ = some (.slice (some ⟨lb, 0, none⟩) 1 cap)
  l0 : w.cell? ⟨lb, 0, none⟩ = some (labelsFn xs)
  l1 : w.cell? ⟨lb, 1, none⟩ = some (labelsFn xt)
  l2 : w.cell? ⟨lb, 2, none⟩ = some (.slice (some ⟨eb, 0, none⟩) 1 ec)
  rule : RuleAt w xs gs ms xt gt mt eb B s t cn
  rlt : rb < B
  llt : lb < B
  n1 : rb ≠ ms
  n2 : rb ≠ mt
  n3 : lb ≠ ms
  n4 : lb ≠ mt

/-- What lies there when the rule is put in. -/
structure PreR (w0 w : World) (rb xs gs ms xt gt mt eb ec : Nat) (s t : Mat) (cn : ByteArray) : Prop where
  below : Below w0.heap.size w0 w
  rge : w0.heap.size ≤ rb
  rc : w.cell? ⟨rb, 0, none⟩ = some (.slice none 0 0)
  rf : w.frozen? ⟨rb, 0, none⟩ = false
  ls : ListAt w xs gs ms s w.heap.size
  fs : Fresh1 w ms s
  lt : ListAt w xt gt mt t w.heap.size
  ft : Fresh1 w mt t
  eq : w.cell? ⟨eb, 0, none⟩ = some (.string cn)
  elt : eb < w.heap.size
  r0 : rb < xs
  r2 : rb < gs
  r1 : rb < ms
  o1 : ms < xt
  o2 : ms < gt
  o3 : ms < mt
  o4 : xs < mt
  o5 : gs < mt
  e1 : mt < eb

theorem new_end {w w4 w7 : World} {rb xs gs ms xt gt mt eb ec gg cap : Nat} {s t : Mat} {cn : ByteArray} {o : Obj} (h : PreR w w4 rb xs gs ms xt gt mt eb ec s t cn)
    (hgr : (w4.alloc o).grownBy w7 (Value.slice none 0 0).ownBlock) (hown : w7.ownsRow w.heap.size 90 3 (.slice (some ⟨gg, 0, none⟩) (0 + 1) cap) (0 + 1) ([] ++ [labelsFn xs, labelsFn xt, .slice (some ⟨eb, 0, none⟩) 1 ec])) (hat : (Value.slice none 0 0).ownBlock = some gg ∨ gg = w4.heap.size + 1) (hlt : gg < w7.heap.size) :
    w7.cell? ⟨rb, 0, none⟩ = some (.slice none 0 0) ∧ w7.frozen? ⟨rb, 0, none⟩ = false ∧ Below w.heap.size w (w7.setCell ⟨rb, 0, none⟩ (.slice (some ⟨gg, 0, none⟩) 1 cap)) ∧
      RulesAt (w7.setCell ⟨rb, 0, none⟩ (.slice (some ⟨gg, 0, none⟩) 1 cap)) rb gg xs gs ms xt gt mt eb ec (w7.setCell ⟨rb, 0, none⟩ (.slice (some ⟨gg, 0, none⟩) 1 cap)).heap.size s t cn := by
  obtain ⟨hb, hx, hc, hf, hls, hfs, hlt1, hft, heq, helt, r0, r2, r1, o1, o2, o3, o4, o5, e1⟩ := h
  have hg : gg = w4.heap.size + 1 := hat.elim (fun h => by cases h) id
  have hsz := hb.size
  have hx2 : rb < w4.heap.size := by have := hls.lt3; omega
  have hs7 : w4.heap.size + 1 ≤ w7.heap.size := by simpa using hgr.size
  have e7 : ∀ k, k < w4.heap.size → w7.heap[k]? = w4.heap[k]? := fun k hk => (hgr.block k (by simp; omega) (fun e => by cases e)).trans (Below.heap_alloc _ _ _ hk)
  have c7 := (World.cell?_of_block (w := w4) (w' := w7) (a := ⟨rb, 0, none⟩) (e7 rb hx2)).trans hc
  have f7 := (World.frozen?_of_block (w := w4) (w' := w7) (a := ⟨rb, 0, none⟩) (e7 rb hx2)).trans hf
  have hz : (w7.setCell ⟨rb, 0, none⟩ (.slice (some ⟨gg, 0, none⟩) 1 cap)).heap.size = w7.heap.size := by simp [World.setCell]
  have hb7 : Below w.heap.size w w7 := (hb.trans ((Below.refl _ _).alloc hsz o)).grown hgr (by simp; omega) (fun k hk => by cases hk)
  have hB4 : But rb w4 (w7.setCell ⟨rb, 0, none⟩ (.slice (some ⟨gg, 0, none⟩) 1 cap)) := by
    refine ⟨hgr.os, hgr.tape, hgr.output, by omega, fun k hk hn => ?_⟩
    exact (setCell_block_ne _ _ _ _ hn).trans (e7 k hk)
  have h1 := hls.lt1
  have h2 := hls.lt2
  have h3 := hls.lt3
  have h4 := hlt1.lt1
  have h5 := hlt1.lt2
  have h6 := hlt1.lt3
  have row : ∀ j, j < 3 → (w7.setCell ⟨rb, 0, none⟩ (.slice (some ⟨gg, 0, none⟩) 1 cap)).cell? ⟨gg, j, none⟩ = [labelsFn xs, labelsFn xt, .slice (some ⟨eb, 0, none⟩) 1 ec][j]? := fun j hj => by
    refine (World.cell?_setCell_other _ ⟨rb, 0, none⟩ ⟨gg, j, none⟩ _ (fun e => by injection e; omega)).trans ?_
    have := hown.cellAt j (by omega)
    simpa using this
  have hfs2 : Fresh1 (w7.setCell ⟨rb, 0, none⟩ (.slice (some ⟨gg, 0, none⟩) 1 cap)) ms s := hfs.imp fun _ k => k.like (hB4.block ms h3 (by omega)) hB4.size
  have hft2 : Fresh1 (w7.setCell ⟨rb, 0, none⟩ (.slice (some ⟨gg, 0, none⟩) 1 cap)) mt t := hft.imp fun _ k => k.like (hB4.block mt h6 (by omega)) hB4.size
  have hxs : rb ≠ xs := by omega
  have hgs : rb ≠ gs := by omega
  have hxt : rb ≠ xt := by omega
  have hgt : rb ≠ gt := by omega
  refine ⟨c7, f7, hb7.setCell (p := ⟨rb, 0, none⟩) hx _, ⟨cap, cell?_setCell_at c7⟩, row 0 (by omega), row 1 (by omega), row 2 (by omega), ⟨?_, ?_, ?_, by omega, by omega, by omega, by omega, by omega, by omega, by omega, by omega⟩, by omega, by omega, by omega, by omega, by omega, by omega⟩
  · exact (hls.but hB4 hx2 hxs hgs (by omega)).up hB4.size (Nat.le_refl _) hfs2
  · exact (hlt1.but hB4 hx2 hxt hgt (by omega)).up hB4.size (Nat.le_refl _) hft2
  · exact (hB4.cell (p := ⟨eb, 0, none⟩) helt (by show eb ≠ rb; omega)).trans heq

/-- A row of one string. -/
theorem row_one {w : World} {B : Nat} {v : Value} {cn : ByteArray} (h : w.ownsRow B 9 1 v 1 [.string cn]) : ∃ g cap, v = .slice (some ⟨g, 0, none⟩) 1 cap ∧ B ≤ g ∧ g < w.heap.size ∧ w.cell? ⟨g, 0, none⟩ = some (.string cn) := by
  have h' := h
  rcases h'.2 with ⟨_, h0⟩ | ⟨g, cap, cur, hv, _⟩
  · simp at h0
  · subst hv
    have hl := h.lt g rfl
    have hc := h.cellAt 0 (by omega)
    exact ⟨g, cap, rfl, hl.1, hl.2, by simpa using hc⟩

set_option maxRecDepth 100000 in
set_option maxHeartbeats 8000000 in
theorem new_one (w : World) (ib io ic : Nat) (p : InhP) (s t : Mat) (cn : ByteArray) (hT : Lib.Utf8Tabs 0 1 w) (h2 : 2 ≤ w.heap.size) (h : InhAt w p s t cn) (ho : InhOk s t cn)
    (c0 : w.cell? ⟨ib, io, none⟩ = some p.vs) (c1 : w.cell? ⟨ib, io + 1, none⟩ = some p.vt) (c2 : w.cell? ⟨ib, io + 2, none⟩ = some p.ve) (hlt : ib < w.heap.size) :
    Calls Tryd.prog 37 #[.slice (some ⟨ib, io, none⟩) 1 ic] w (fun e w' => ∃ rb lb xs gs ms xt gt mt eb ec, e = .returned (.tuple #[.pointer (some ⟨rb, 0, none⟩), .int .i64 0, .int .i64 0]) ∧ Below w.heap.size w w' ∧ RulesAt w' rb lb xs gs ms xt gt mt eb ec w'.heap.size s t cn ∧ w.heap.size ≤ ms ∧ w.heap.size ≤ mt) := by
  have H := Lib.hid h
  have HO := Lib.hid ho
  have HT := Lib.hid hT
  have HC := Lib.hid (And.intro c0 (And.intro c1 c2))
  clear h ho hT
  go_enter Tryd.func37, Tryd.ntmps37
  go_wp2_with fail
  refine (irights_one w ib io ic p s t cn HT.out h2 H.out HO.out c0 c1 c2 hlt).mono ?_
  clear c0 c1 c2
  rintro e w1 ⟨rfl, hb1⟩
  have HB1 := Lib.hid hb1
  have hz1 := hb1.size
  have HW : Hid (∀ W, W = w1.alloc (.cells #[.slice none 0 0] 86) → Below w.heap.size w W ∧ W.heap.size = w1.heap.size + 1 ∧ W.cell? ⟨w1.heap.size, 0, none⟩ = some (.slice none 0 0) ∧ W.frozen? ⟨w1.heap.size, 0, none⟩ = false) := by
    rintro W rfl
    exact ⟨HB1.out.trans ((Below.refl _ _).alloc hz1 _), by simp, by simp, by simp⟩
  clear hb1
  go_wp2_with fail
  generalize hWe : w1.alloc (.cells #[.slice none 0 0] 86) = W at *
  obtain ⟨hbW, hszW, d0, df⟩ := HW.out W rfl
  clear HW hWe
  have HBW := Lib.hid hbW
  have hlt' := Nat.lt_of_lt_of_le hlt hbW.size
  have c0 := (hbW.cell (p := ⟨ib, io, none⟩) hlt).trans HC.out.1
  have c1 := (hbW.cell (p := ⟨ib, io + 1, none⟩) hlt).trans HC.out.2.1
  have c2 := (hbW.cell (p := ⟨ib, io + 2, none⟩) hlt).trans HC.out.2.2
  have hzW := hbW.size
  clear hbW HC
  generalize hrb : w1.heap.size = rb at *
  have hbx : ¬ ib = W.heap.size := by omega
  go_loopg [29] 1 (fun g i wr => (g = 1 ∧ i = .int .i64 0 ∧ wr = W) ∨ (g = 0 ∧ i = .int .i64 1 ∧ ∃ lb xs gs ms xt gt mt eb ec, Below w.heap.size w wr ∧ RulesAt wr rb lb xs gs ms xt gt mt eb ec wr.heap.size s t cn ∧ w.heap.size ≤ ms ∧ w.heap.size ≤ mt))
  case atStart => exact .inl ⟨rfl, rfl, rfl⟩
  case round =>
    rcases hrel with ⟨rfl, rfl, rfl⟩ | ⟨rfl, rfl, hfin⟩
    · have HW : Hid (∀ W, W = wr.alloc (.cells #[p.vs, p.vt, p.ve] 113) → Below w.heap.size w W ∧ W.heap.size = rb + 2 ∧ W.cell? ⟨rb, 0, none⟩ = some (.slice none 0 0) ∧ W.frozen? ⟨rb, 0, none⟩ = false ∧ W.cell? ⟨rb + 1, 0, none⟩ = some p.vs ∧ W.cell? ⟨rb + 1, 1, none⟩ = some p.vt ∧ W.cell? ⟨rb + 1, 2, none⟩ = some p.ve) := by
        rintro W rfl
        have hA : Below wr.heap.size wr (wr.alloc (.cells #[p.vs, p.vt, p.ve] 113)) := (Below.refl _ _).alloc (Nat.le_refl _) _
        rw [← hszW]
        exact ⟨HBW.out.trans (hA.mono (by omega)), by simp; omega, (hA.cell (p := ⟨rb, 0, none⟩) (by show rb < wr.heap.size; omega)).trans d0, (hA.frozen (p := ⟨rb, 0, none⟩) (by show rb < wr.heap.size; omega)).trans df, by simp, by simp, by simp⟩
      go_wp2_with fail
      generalize hWe : wr.alloc (.cells #[p.vs, p.vt, p.ve] 113) = W2 at *
      obtain ⟨hbW2, hszW2, x0, xf, k0, k1, k2⟩ := HW.out W2 rfl
      have HBW2 := Lib.hid hbW2
      have HI2 := Lib.hid (H.out.below hbW2)
      clear HW hWe hbW2 d0 df c0 c1 c2
      refine (compile_one W2 p.sb p.so p.sc s (Utf8Tabs_below HT.out HBW2.out) (by omega) HI2.out.sm HI2.out.slt HO.out.s).mono ?_
      rintro e w3 ⟨xs, gs, ms, rfl, hb3, hl3, hx3, hg3, hm3, hf3⟩
      have hz3 := hb3.size
      have HB3 := Lib.hid (HBW2.out.trans (hb3.mono (by omega)))
      have HI3 := Lib.hid (HI2.out.below hb3)
      have x1 := (hb3.cell (p := ⟨rb, 0, none⟩) (by show rb < W2.heap.size; omega)).trans x0
      have x1f := (hb3.frozen (p := ⟨rb, 0, none⟩) (by show rb < W2.heap.size; omega)).trans xf
      have l1 := (hb3.cell (p := ⟨rb + 1, 1, none⟩) (by show rb + 1 < W2.heap.size; omega)).trans k1
      have l2 := (hb3.cell (p := ⟨rb + 1, 2, none⟩) (by show rb + 1 < W2.heap.size; omega)).trans k2
      have HL3 := Lib.hid hl3
      have HF3 := Lib.hid hf3
      clear hb3 hl3 hf3 x0 xf k0 k1 k2
      go_wp2_with fail
      refine (compile_one w3 p.tb p.to_ p.tc t (Utf8Tabs_below HT.out HB3.out) (by omega) HI3.out.tm HI3.out.tlt HO.out.t).mono ?_
      rintro e w4 ⟨xt, gt, mt, rfl, hb4, hl4, hx4, hg4, hm4, hf4⟩
      have hz4 := hb4.size
      have HB4 := Lib.hid (HB3.out.trans (hb4.mono (by omega)))
      have HI4 := Lib.hid (HI3.out.below hb4)
      have x2 := (hb4.cell (p := ⟨rb, 0, none⟩) (by show rb < w3.heap.size; omega)).trans x1
      have x2f := (hb4.frozen (p := ⟨rb, 0, none⟩) (by show rb < w3.heap.size; omega)).trans x1f
      have m2 := (hb4.cell (p := ⟨rb + 1, 2, none⟩) (by show rb + 1 < w3.heap.size; omega)).trans l2
      have HL4s := Lib.hid (HL3.out.below hb4)
      have HF4s := Lib.hid (HF3.out.below hb4)
      have HL4 := Lib.hid hl4
      have HF4 := Lib.hid hf4
      have i1 := HL3.out.lt1
      have i2 := HL3.out.lt2
      have i3 := HL3.out.lt3
      clear hb4 hl4 hf4 x1 x1f l1 l2
      go_wp2_with fail
      refine wp_region_any (by kernel_rfl) ?_
      change wpAny _ _ _ _ _ _ _ (World.drew _)
      have HD : Hid (∀ WD, WD = w4.drew → Below w.heap.size w WD ∧ WD.heap.size = w4.heap.size ∧ WD.cell? ⟨rb, 0, none⟩ = some (.slice none 0 0) ∧ WD.frozen? ⟨rb, 0, none⟩ = false ∧ WD.cell? ⟨rb + 1, 2, none⟩ = some p.ve ∧ Below w4.heap.size w4 WD) := by
        rintro WD rfl
        exact ⟨HB4.out.drew, rfl, x2, x2f, m2, (Below.refl _ _).drew⟩
      generalize hDe : w4.drew = WD
      obtain ⟨hbD, hszD, y0, y0f, q2, hbD2⟩ := HD.out WD hDe.symm
      have HBD := Lib.hid hbD
      have HID := Lib.hid (HI4.out.below hbD2)
      have HLDs := Lib.hid (HL4s.out.below hbD2)
      have HFDs := Lib.hid (HF4s.out.below hbD2)
      have HLD := Lib.hid (HL4.out.below hbD2)
      have HFD := Lib.hid (HF4.out.below hbD2)
      have hmf : ∀ (fn : Fn) (first cap : Array Value) (w : World), (Instr.makeFunc fn first cap).run Tryd.prog w = .ok (.func fn first cap) w := fun _ _ _ _ => rfl
      obtain ⟨i0, hi0, hz0, hzi1, hzi2⟩ := info_parts infoRule
      have hone : ∀ xs xt eb ec, ∀ u ∈ [labelsFn xs, labelsFn xt, Value.slice (some ⟨eb, 0, none⟩) 1 ec], u.oneCell' = true := by
        intro xs xt eb ec u hu
        simp only [List.mem_cons, List.not_mem_nil, or_false] at hu
        rcases hu with rfl | rfl | rfl <;> rfl
      clear HD hDe hbD hbD2 x2 x2f m2
      refine wpAny_take (i := 0) (v := .pointer (some ⟨rb, 0, none⟩)) rfl (by kernel_rfl) (by kernel_rfl) (by kernel_rfl) (fun _ _ _ h => h) (Or.inl ⟨by rfl, by intro w; go_simp⟩) ?_
      refine wpAny_take (i := 1) (v := .pointer (some ⟨rb, 0, none⟩)) rfl (by kernel_rfl) (by kernel_rfl) (by kernel_rfl) (fun _ _ _ h => h) (Or.inl ⟨by rfl, by intro w; go_simp⟩) ?_
      refine wpAny_take (i := 2) (v := .pointer (some ⟨rb, 0, none⟩)) rfl (by kernel_rfl) (by kernel_rfl) (by kernel_rfl) (fun _ _ _ h => h) (Or.inl ⟨by rfl, by intro w; go_simp⟩) ?_
      refine wpAny_take (i := 3) (v := .pointer (some ⟨rb, 0, none⟩)) rfl (by kernel_rfl) (by kernel_rfl) (by kernel_rfl) (fun _ _ _ h => h) (Or.inl ⟨by rfl, by intro w; go_simp⟩) ?_
      refine wpAny_take (i := 5) (v := .pointer (some ⟨xs, 0, none⟩)) rfl (by kernel_rfl) (by kernel_rfl) (by kernel_rfl) (fun _ _ _ h => h) (Or.inl ⟨by rfl, by intro w; go_simp⟩) ?_
      refine wpAny_take (i := 6) (v := labelsFn xs) rfl (by kernel_rfl) (by kernel_rfl) (by kernel_rfl) (fun _ _ _ h => h) (Or.inl ⟨by rfl, by intro w; go_simp⟩) ?_
      refine wpAny_take (i := 7) (v := .pointer (some ⟨xt, 0, none⟩)) rfl (by kernel_rfl) (by kernel_rfl) (by kernel_rfl) (fun _ _ _ h => h) (Or.inl ⟨by rfl, by intro w; go_simp⟩) ?_
      refine wpAny_take (i := 8) (v := labelsFn xt) rfl (by kernel_rfl) (by kernel_rfl) (by kernel_rfl) (fun _ _ _ h => h) (Or.inl ⟨by rfl, by intro w; go_simp⟩) ?_
      refine wpAny_take (i := 9) (v := .pointer (some ⟨rb + 1, 2, none⟩)) rfl (by kernel_rfl) (by kernel_rfl) (by kernel_rfl) (fun _ _ _ h => h) (Or.inl ⟨by rfl, by intro w; go_simp⟩) ?_
      refine wpAny_ready (rs := [4, 10]) (by kernel_rfl) (by simp) ?_
      refine AllReady.cons rfl (fun Kk hKk => ?_) (AllReady.cons rfl (fun Kk hKk => ?_) AllReady.nil)
      · skip
        go_simp
        refine hKk _ _ ?_
        clear hKk Kk
        refine wpAny_ready (rs := [10]) (by kernel_rfl) (by simp) ?_
        refine AllReady.cons rfl (fun Kk hKk => ?_) AllReady.nil
        go_simp
        refine hKk _ _ ?_
        clear hKk Kk
        refine wpAny_ready (rs := [11]) (by kernel_rfl) (by simp) ?_
        refine AllReady.cons rfl (fun Kk hKk => ?_) AllReady.nil
        go_simp
        refine (Tryd.slices_Clone_string p.eb p.eo 1 p.ec [cn] _ (by simp) (by omega) (by intro j hj; obtain rfl : j = 0 := (by simp at hj; omega); exact HID.out.eq)).mono ?_
        rintro e w5 ⟨v5, rfl, hown5, _, hb5⟩
        obtain ⟨eb, ec, rfl, hge, hle, hce⟩ := row_one hown5
        have hz5 := hb5.size
        have x5 := (hb5.cell (p := ⟨rb, 0, none⟩) (by show rb < WD.heap.size; omega)).trans y0
        have x6 : (w5.alloc (.cells #[labelsFn xs, labelsFn xt, .slice (some ⟨eb, 0, none⟩) 1 ec] 90)).cell? ⟨rb, 0, none⟩ = some (.slice none 0 0) := (World.cell?_alloc_past _ _ _ (by show rb < w5.heap.size; omega)).trans x5
        have HPR : Hid (PreR w w5 rb xs gs ms xt gt mt eb ec s t cn) := ⟨HBD.out.trans (hb5.mono (by omega)), by omega, x5, (hb5.frozen (p := ⟨rb, 0, none⟩) (by show rb < WD.heap.size; omega)).trans y0f,
          (HLDs.out.below hb5).up (by omega) (Nat.le_refl _) (HFDs.out.below hb5), HFDs.out.below hb5, (HLD.out.below hb5).up (by omega) (Nat.le_refl _) (HFD.out.below hb5), HFD.out.below hb5, hce, hle, by omega, by omega, by omega, by omega, by omega, by omega, by omega, by omega, by have := HLD.out.lt3; omega⟩
        clear hown5 hb5 hce
        refine hKk _ _ ?_
        clear hKk Kk
        refine wpAny_ready (rs := [12]) (by kernel_rfl) (by simp) ?_
        refine AllReady.cons rfl (fun Kk hKk => ?_) AllReady.nil
        go_simp
        refine hKk _ _ ?_
        clear hKk Kk
        refine wpAny_ready (rs := [13]) (by kernel_rfl) (by simp) ?_
        refine AllReady.cons rfl (fun Kk hKk => ?_) AllReady.nil
        go_simp
        refine hKk _ _ ?_
        clear hKk Kk
        refine wpAny_ready (rs := [14]) (by kernel_rfl) (by simp) ?_
        refine AllReady.cons rfl (fun Kk hKk => ?_) AllReady.nil
        refine step_append_lies _ (by rfl) _ _ _ (by rfl) w.heap.size 90 i0 _ 3 40 Tryd.underlying84 hi0 hz0 hzi1 hzi2 rfl (by omega) (.slice none 0 0) 0 [] (by rfl) (World.ownsRow_nil _ _ _ _) ⟨w5.heap.size, 0, none⟩ 1 1 [labelsFn xs, labelsFn xt, .slice (some ⟨eb, 0, none⟩) 1 ec] (by rfl) (by rfl) (World.news_of_block (cs := #[labelsFn xs, labelsFn xt, .slice (some ⟨eb, 0, none⟩) 1 ec]) (t := 90) (fr := (0, 0)) (heap_alloc_new w5 _)) (hone xs xt eb ec) (by omega) (by unfold maxLen; omega) (by omega) (by simp; omega) (w5.heap.size + 1) (by simp) ?_
        intro gg cap' w7 hown7 hgrow hat hlt7
        have HE := Lib.hid (new_end HPR.out hgrow hown7 hat hlt7)
        have y7 := HE.out.1
        have f7 := HE.out.2.1
        clear hown7 hgrow hat
        refine hKk _ _ ?_
        clear hKk Kk
        refine wpAny_ready (rs := [15]) (by kernel_rfl) (by simp) ?_
        refine AllReady.cons rfl (fun Kk hKk => ?_) AllReady.nil
        go_simp
        refine hKk _ _ ?_
        clear hKk Kk
        refine wpAny_ready (rs := [16]) (by kernel_rfl) (by simp) ?_
        refine AllReady.cons rfl (fun Kk hKk => ?_) AllReady.nil
        go_simp
        refine hKk _ _ ?_
        clear hKk Kk
        refine wpAny_ready (rs := [17]) (by kernel_rfl) (by simp) ?_
        refine AllReady.cons rfl (fun Kk hKk => ?_) AllReady.nil
        go_simp
        refine hKk _ _ ?_
        clear hKk Kk
        refine wpAny_done (by kernel_rfl) ?_ _
        go_wp2_with fail
        go_roundg 0
        case measure => omega
        case rel => exact .inr ⟨rfl, rfl, gg, xs, gs, ms, xt, gt, mt, eb, ec, HE.out.2.2.1, HE.out.2.2.2, by omega, by omega⟩
      · skip
        go_simp
        refine hKk _ _ ?_
        clear hKk Kk
        refine wpAny_ready (rs := [4, 11]) (by kernel_rfl) (by simp) ?_
        refine AllReady.cons rfl (fun Kk hKk => ?_) (AllReady.cons rfl (fun Kk hKk => ?_) AllReady.nil)
        · skip
          go_simp
          refine hKk _ _ ?_
          clear hKk Kk
          refine wpAny_ready (rs := [11]) (by kernel_rfl) (by simp) ?_
          refine AllReady.cons rfl (fun Kk hKk => ?_) AllReady.nil
          go_simp
          refine (Tryd.slices_Clone_string p.eb p.eo 1 p.ec [cn] _ (by simp) (by omega) (by intro j hj; obtain rfl : j = 0 := (by simp at hj; omega); exact HID.out.eq)).mono ?_
          rintro e w5 ⟨v5, rfl, hown5, _, hb5⟩
          obtain ⟨eb, ec, rfl, hge, hle, hce⟩ := row_one hown5
          have hz5 := hb5.size
          have x5 := (hb5.cell (p := ⟨rb, 0, none⟩) (by show rb < WD.heap.size; omega)).trans y0
          have x6 : (w5.alloc (.cells #[labelsFn xs, labelsFn xt, .slice (some ⟨eb, 0, none⟩) 1 ec] 90)).cell? ⟨rb, 0, none⟩ = some (.slice none 0 0) := (World.cell?_alloc_past _ _ _ (by show rb < w5.heap.size; omega)).trans x5
          have HPR : Hid (PreR w w5 rb xs gs ms xt gt mt eb ec s t cn) := ⟨HBD.out.trans (hb5.mono (by omega)), by omega, x5, (hb5.frozen (p := ⟨rb, 0, none⟩) (by show rb < WD.heap.size; omega)).trans y0f,
            (HLDs.out.below hb5).up (by omega) (Nat.le_refl _) (HFDs.out.below hb5), HFDs.out.below hb5, (HLD.out.below hb5).up (by omega) (Nat.le_refl _) (HFD.out.below hb5), HFD.out.below hb5, hce, hle, by omega, by omega, by omega, by omega, by omega, by omega, by omega, by omega, by have := HLD.out.lt3; omega⟩
          clear hown5 hb5 hce
          refine hKk _ _ ?_
          clear hKk Kk
          refine wpAny_ready (rs := [12]) (by kernel_rfl) (by simp) ?_
          refine AllReady.cons rfl (fun Kk hKk => ?_) AllReady.nil
          go_simp
          refine hKk _ _ ?_
          clear hKk Kk
          refine wpAny_ready (rs := [13]) (by kernel_rfl) (by simp) ?_
          refine AllReady.cons rfl (fun Kk hKk => ?_) AllReady.nil
          go_simp
          refine hKk _ _ ?_
          clear hKk Kk
          refine wpAny_ready (rs := [14]) (by kernel_rfl) (by simp) ?_
          refine AllReady.cons rfl (fun Kk hKk => ?_) AllReady.nil
          refine step_append_lies _ (by rfl) _ _ _ (by rfl) w.heap.size 90 i0 _ 3 40 Tryd.underlying84 hi0 hz0 hzi1 hzi2 rfl (by omega) (.slice none 0 0) 0 [] (by rfl) (World.ownsRow_nil _ _ _ _) ⟨w5.heap.size, 0, none⟩ 1 1 [labelsFn xs, labelsFn xt, .slice (some ⟨eb, 0, none⟩) 1 ec] (by rfl) (by rfl) (World.news_of_block (cs := #[labelsFn xs, labelsFn xt, .slice (some ⟨eb, 0, none⟩) 1 ec]) (t := 90) (fr := (0, 0)) (heap_alloc_new w5 _)) (hone xs xt eb ec) (by omega) (by unfold maxLen; omega) (by omega) (by simp; omega) (w5.heap.size + 1) (by simp) ?_
          intro gg cap' w7 hown7 hgrow hat hlt7
          have HE := Lib.hid (new_end HPR.out hgrow hown7 hat hlt7)
          have y7 := HE.out.1
          have f7 := HE.out.2.1
          clear hown7 hgrow hat
          refine hKk _ _ ?_
          clear hKk Kk
          refine wpAny_ready (rs := [15]) (by kernel_rfl) (by simp) ?_
          refine AllReady.cons rfl (fun Kk hKk => ?_) AllReady.nil
          go_simp
          refine hKk _ _ ?_
          clear hKk Kk
          refine wpAny_ready (rs := [16]) (by kernel_rfl) (by simp) ?_
          refine AllReady.cons rfl (fun Kk hKk => ?_) AllReady.nil
          go_simp
          refine hKk _ _ ?_
          clear hKk Kk
          refine wpAny_ready (rs := [17]) (by kernel_rfl) (by simp) ?_
          refine AllReady.cons rfl (fun Kk hKk => ?_) AllReady.nil
          go_simp
          refine hKk _ _ ?_
          clear hKk Kk
          refine wpAny_done (by kernel_rfl) ?_ _
          go_wp2_with fail
          go_roundg 0
          case measure => omega
          case rel => exact .inr ⟨rfl, rfl, gg, xs, gs, ms, xt, gt, mt, eb, ec, HE.out.2.2.1, HE.out.2.2.2, by omega, by omega⟩
        · skip
          go_simp
          refine (Tryd.slices_Clone_string p.eb p.eo 1 p.ec [cn] _ (by simp) (by omega) (by intro j hj; obtain rfl : j = 0 := (by simp at hj; omega); exact HID.out.eq)).mono ?_
          rintro e w5 ⟨v5, rfl, hown5, _, hb5⟩
          obtain ⟨eb, ec, rfl, hge, hle, hce⟩ := row_one hown5
          have hz5 := hb5.size
          have x5 := (hb5.cell (p := ⟨rb, 0, none⟩) (by show rb < WD.heap.size; omega)).trans y0
          have x6 : (w5.alloc (.cells #[labelsFn xs, labelsFn xt, .slice (some ⟨eb, 0, none⟩) 1 ec] 90)).cell? ⟨rb, 0, none⟩ = some (.slice none 0 0) := (World.cell?_alloc_past _ _ _ (by show rb < w5.heap.size; omega)).trans x5
          have HPR : Hid (PreR w w5 rb xs gs ms xt gt mt eb ec s t cn) := ⟨HBD.out.trans (hb5.mono (by omega)), by omega, x5, (hb5.frozen (p := ⟨rb, 0, none⟩) (by show rb < WD.heap.size; omega)).trans y0f,
            (HLDs.out.below hb5).up (by omega) (Nat.le_refl _) (HFDs.out.below hb5), HFDs.out.below hb5, (HLD.out.below hb5).up (by omega) (Nat.le_refl _) (HFD.out.below hb5), HFD.out.below hb5, hce, hle, by omega, by omega, by omega, by omega, by omega, by omega, by omega, by omega, by have := HLD.out.lt3; omega⟩
          clear hown5 hb5 hce
          refine hKk _ _ ?_
          clear hKk Kk
          refine wpAny_ready (rs := [4, 12]) (by kernel_rfl) (by simp) ?_
          refine AllReady.cons rfl (fun Kk hKk => ?_) (AllReady.cons rfl (fun Kk hKk => ?_) AllReady.nil)
          · skip
            go_simp
            refine hKk _ _ ?_
            clear hKk Kk
            refine wpAny_ready (rs := [12]) (by kernel_rfl) (by simp) ?_
            refine AllReady.cons rfl (fun Kk hKk => ?_) AllReady.nil
            go_simp
            refine hKk _ _ ?_
            clear hKk Kk
            refine wpAny_ready (rs := [13]) (by kernel_rfl) (by simp) ?_
            refine AllReady.cons rfl (fun Kk hKk => ?_) AllReady.nil
            go_simp
            refine hKk _ _ ?_
            clear hKk Kk
            refine wpAny_ready (rs := [14]) (by kernel_rfl) (by simp) ?_
            refine AllReady.cons rfl (fun Kk hKk => ?_) AllReady.nil
            refine step_append_lies _ (by rfl) _ _ _ (by rfl) w.heap.size 90 i0 _ 3 40 Tryd.underlying84 hi0 hz0 hzi1 hzi2 rfl (by omega) (.slice none 0 0) 0 [] (by rfl) (World.ownsRow_nil _ _ _ _) ⟨w5.heap.size, 0, none⟩ 1 1 [labelsFn xs, labelsFn xt, .slice (some ⟨eb, 0, none⟩) 1 ec] (by rfl) (by rfl) (World.news_of_block (cs := #[labelsFn xs, labelsFn xt, .slice (some ⟨eb, 0, none⟩) 1 ec]) (t := 90) (fr := (0, 0)) (heap_alloc_new w5 _)) (hone xs xt eb ec) (by omega) (by unfold maxLen; omega) (by omega) (by simp; omega) (w5.heap.size + 1) (by simp) ?_
            intro gg cap' w7 hown7 hgrow hat hlt7
            have HE := Lib.hid (new_end HPR.out hgrow hown7 hat hlt7)
            have y7 := HE.out.1
            have f7 := HE.out.2.1
            clear hown7 hgrow hat
            refine hKk _ _ ?_
            clear hKk Kk
            refine wpAny_ready (rs := [15]) (by kernel_rfl) (by simp) ?_
            refine AllReady.cons rfl (fun Kk hKk => ?_) AllReady.nil
            go_simp
            refine hKk _ _ ?_
            clear hKk Kk
            refine wpAny_ready (rs := [16]) (by kernel_rfl) (by simp) ?_
            refine AllReady.cons rfl (fun Kk hKk => ?_) AllReady.nil
            go_simp
            refine hKk _ _ ?_
            clear hKk Kk
            refine wpAny_ready (rs := [17]) (by kernel_rfl) (by simp) ?_
            refine AllReady.cons rfl (fun Kk hKk => ?_) AllReady.nil
            go_simp
            refine hKk _ _ ?_
            clear hKk Kk
            refine wpAny_done (by kernel_rfl) ?_ _
            go_wp2_with fail
            go_roundg 0
            case measure => omega
            case rel => exact .inr ⟨rfl, rfl, gg, xs, gs, ms, xt, gt, mt, eb, ec, HE.out.2.2.1, HE.out.2.2.2, by omega, by omega⟩
          · skip
            go_simp
            refine hKk _ _ ?_
            clear hKk Kk
            refine wpAny_ready (rs := [4, 13]) (by kernel_rfl) (by simp) ?_
            refine AllReady.cons rfl (fun Kk hKk => ?_) (AllReady.cons rfl (fun Kk hKk => ?_) AllReady.nil)
            · skip
              go_simp
              refine hKk _ _ ?_
              clear hKk Kk
              refine wpAny_ready (rs := [13]) (by kernel_rfl) (by simp) ?_
              refine AllReady.cons rfl (fun Kk hKk => ?_) AllReady.nil
              go_simp
              refine hKk _ _ ?_
              clear hKk Kk
              refine wpAny_ready (rs := [14]) (by kernel_rfl) (by simp) ?_
              refine AllReady.cons rfl (fun Kk hKk => ?_) AllReady.nil
              refine step_append_lies _ (by rfl) _ _ _ (by rfl) w.heap.size 90 i0 _ 3 40 Tryd.underlying84 hi0 hz0 hzi1 hzi2 rfl (by omega) (.slice none 0 0) 0 [] (by rfl) (World.ownsRow_nil _ _ _ _) ⟨w5.heap.size, 0, none⟩ 1 1 [labelsFn xs, labelsFn xt, .slice (some ⟨eb, 0, none⟩) 1 ec] (by rfl) (by rfl) (World.news_of_block (cs := #[labelsFn xs, labelsFn xt, .slice (some ⟨eb, 0, none⟩) 1 ec]) (t := 90) (fr := (0, 0)) (heap_alloc_new w5 _)) (hone xs xt eb ec) (by omega) (by unfold maxLen; omega) (by omega) (by simp; omega) (w5.heap.size + 1) (by simp) ?_
              intro gg cap' w7 hown7 hgrow hat hlt7
              have HE := Lib.hid (new_end HPR.out hgrow hown7 hat hlt7)
              have y7 := HE.out.1
              have f7 := HE.out.2.1
              clear hown7 hgrow hat
              refine hKk _ _ ?_
              clear hKk Kk
              refine wpAny_ready (rs := [15]) (by kernel_rfl) (by simp) ?_
              refine AllReady.cons rfl (fun Kk hKk => ?_) AllReady.nil
              go_simp
              refine hKk _ _ ?_
              clear hKk Kk
              refine wpAny_ready (rs := [16]) (by kernel_rfl) (by simp) ?_
              refine AllReady.cons rfl (fun Kk hKk => ?_) AllReady.nil
              go_simp
              refine hKk _ _ ?_
              clear hKk Kk
              refine wpAny_ready (rs := [17]) (by kernel_rfl) (by simp) ?_
              refine AllReady.cons rfl (fun Kk hKk => ?_) AllReady.nil
              go_simp
              refine hKk _ _ ?_
              clear hKk Kk
              refine wpAny_done (by kernel_rfl) ?_ _
              go_wp2_with fail
              go_roundg 0
              case measure => omega
              case rel => exact .inr ⟨rfl, rfl, gg, xs, gs, ms, xt, gt, mt, eb, ec, HE.out.2.2.1, HE.out.2.2.2, by omega, by omega⟩
            · skip
              go_simp
              refine hKk _ _ ?_
              clear hKk Kk
              refine wpAny_ready (rs := [4]) (by kernel_rfl) (by simp) ?_
              refine AllReady.cons rfl (fun Kk hKk => ?_) AllReady.nil
              go_simp
              refine hKk _ _ ?_
              clear hKk Kk
              refine wpAny_ready (rs := [14]) (by kernel_rfl) (by simp) ?_
              refine AllReady.cons rfl (fun Kk hKk => ?_) AllReady.nil
              refine step_append_lies _ (by rfl) _ _ _ (by rfl) w.heap.size 90 i0 _ 3 40 Tryd.underlying84 hi0 hz0 hzi1 hzi2 rfl (by omega) (.slice none 0 0) 0 [] (by rfl) (World.ownsRow_nil _ _ _ _) ⟨w5.heap.size, 0, none⟩ 1 1 [labelsFn xs, labelsFn xt, .slice (some ⟨eb, 0, none⟩) 1 ec] (by rfl) (by rfl) (World.news_of_block (cs := #[labelsFn xs, labelsFn xt, .slice (some ⟨eb, 0, none⟩) 1 ec]) (t := 90) (fr := (0, 0)) (heap_alloc_new w5 _)) (hone xs xt eb ec) (by omega) (by unfold maxLen; omega) (by omega) (by simp; omega) (w5.heap.size + 1) (by simp) ?_
              intro gg cap' w7 hown7 hgrow hat hlt7
              have HE := Lib.hid (new_end HPR.out hgrow hown7 hat hlt7)
              have y7 := HE.out.1
              have f7 := HE.out.2.1
              clear hown7 hgrow hat
              refine hKk _ _ ?_
              clear hKk Kk
              refine wpAny_ready (rs := [15]) (by kernel_rfl) (by simp) ?_
              refine AllReady.cons rfl (fun Kk hKk => ?_) AllReady.nil
              go_simp
              refine hKk _ _ ?_
              clear hKk Kk
              refine wpAny_ready (rs := [16]) (by kernel_rfl) (by simp) ?_
              refine AllReady.cons rfl (fun Kk hKk => ?_) AllReady.nil
              go_simp
              refine hKk _ _ ?_
              clear hKk Kk
              refine wpAny_ready (rs := [17]) (by kernel_rfl) (by simp) ?_
              refine AllReady.cons rfl (fun Kk hKk => ?_) AllReady.nil
              go_simp
              refine hKk _ _ ?_
              clear hKk Kk
              refine wpAny_done (by kernel_rfl) ?_ _
              go_wp2_with fail
              go_roundg 0
              case measure => omega
              case rel => exact .inr ⟨rfl, rfl, gg, xs, gs, ms, xt, gt, mt, eb, ec, HE.out.2.2.1, HE.out.2.2.2, by omega, by omega⟩
    · obtain ⟨lb, xs, gs, ms, xt, gt, mt, eb, ec, hb, hR, h3, h4⟩ := hfin
      have HB := Lib.hid hb
      have HR2 := Lib.hid hR
      clear hb hR
      go_wp2_with fail
      go_ret3
      exact ⟨rb, lb, xs, gs, ms, xt, gt, mt, eb, ec, rfl, HB.out, HR2.out, h3, h4⟩

end Go.Proofs.YtjojhlkbcjhonaaDoor.Ih
