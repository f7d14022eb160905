/- Walk over layer 5's Compile. -/
import Derived.Test.YtgcmjidphoklkaaGreatDoorRxGj
import Derived.Test.YtgcmjidphoklkaaGreatDoorRxEr
import Derived.BigRegion
import Derived.BigQuiet
namespace Go.Proofs.YtgcmjidphoklkaaGreatDoor.Rx
open Go.RowKit Go.Sort

attribute [local go_sem] run_store_one

/-- An expression that is compiled, in memory. -/
structure RegexAt (lw : Nat) (w : World) (rb : Nat) (r : Re) (c : P9) (K C : List Nat) (v : Value) (ns : List NdM) : Prop where
  cells : Cells9 w rb 0 c
  part : PV Re.cnt w r c K C
  low : ∀ k, k ∈ K ++ C → lw ≤ k ∧ k + 1 < rb
  states : w.cell? ⟨rb, 9, none⟩ = some (.int .i64 (Re.cnt r))
  gr : Gr rb v ns w
  nodes : NRep lw w (rb - 1) ns r.graph.2
  first : w.cell? ⟨rb, 11, none⟩ = some (.int .i64 r.graph.1)
  lt : rb < w.heap.size

def CompSaid (w : World) : PRes Re → Ending → World → Prop
  | .ok r, e, w' => ∃ rb c K C v ns, e = .returned (.tuple #[.pointer (some ⟨rb, 0, none⟩), .int .i64 0, .int .i64 0]) ∧ RegexAt w.heap.size w' rb r c K C v ns ∧ w.heap.size < rb ∧ (∀ k, k ∈ K ++ C → w.heap.size ≤ k) ∧ Below w.heap.size w w'
  | .error (en, pl), e, w' => e = .returned (.tuple #[.pointer none, .int .i64 en, .int .i64 pl]) ∧ Below w.heap.size w w'

theorem below_drawn {B n : Nat} {w w' : World} (h : Below B w w') : Below B w (w'.drewN n) := ⟨h.os, h.tape, h.output, h.size, h.block⟩

theorem GMoved.cell_rb {rb j : Nat} {v v' : Value} {w w' : World} (m : GMoved rb v v' w w') (hj : j ≠ 10) : w'.cell? ⟨rb, j, none⟩ = w.cell? ⟨rb, j, none⟩ :=
  (World.cell?_of_block (w := w.setCell ⟨rb, 10, none⟩ v') m.self).trans (World.cell?_setCell_other _ _ _ _ (by simp))

theorem GMoved.frozen_rb {rb j : Nat} {v v' : Value} {w w' : World} (m : GMoved rb v v' w w') : w'.frozen? ⟨rb, j, none⟩ = w.frozen? ⟨rb, j, none⟩ :=
  (World.frozen?_of_block (w := w.setCell ⟨rb, 10, none⟩ v') m.self).trans (World.frozen?_setCell _ _ _ _)

theorem make_one (w : World) : Sem.run Tryz.prog (Instr.makeSlice 99 (.int .i64 1) (.int .i64 1)) w = .ok (.slice (some ⟨w.heap.size, 0, none⟩) 1 1) (w.alloc (.cells #[.nilFunc, .int .i64 0, .int .i64 0] 109)) := by kernel_rfl

theorem compile_any (w : World) (s : ByteArray) (hT : Lib.Utf8Tabs 0 1 w) (h2 : 2 ≤ w.heap.size) (hlen : ∀ r, compileP s = .ok r → r.graph.2.length ≤ 1000000) :
    Calls Tryz.prog 27 #[.string s] w (CompSaid w (compileP s)) := by
  by_cases hs : 256 < s.size
  · have hR : compileP s = .error (4, 0) := by unfold compileP; rw [if_pos hs]
    rw [hR]
    clear hT h2 hlen hR
    go_enter Tryz.func27, Tryz.ntmps27
    go_wp2_with fail
    go_ret3
    exact ⟨rfl, Below.refl _ _⟩
  have hs' : s.size ≤ 256 := by omega
  have HWH := Lib.hid (whole_any w s hs' hT h2)
  have HLEN := Lib.hid hlen
  clear hT h2 hlen
  go_enter Tryz.func27, Tryz.ntmps27
  go_wp2_with fail
  refine HWH.out.mono ?_
  rintro e w1 hr
  clear HWH
  rcases hx : wholeP s with ⟨en, pl⟩ | r
  · rw [hx] at hr
    have hR : compileP s = .error (en, pl) := by unfold compileP; rw [if_neg hs, hx]
    have HR := Lib.hid hR
    obtain ⟨c, o1, o2, rfl, hb⟩ := hr
    have hen := wholeP_er hx
    simp only at hen
    have hne : (en != 0) = true := by simpa using hen
    have HB := Lib.hid hb
    clear hx hR hb hen HLEN
    go_wp2_with fail
    go_quiet (fail)
    go_wp2_with fail
    go_ret3
    show CompSaid w (compileP s) _ _
    rw [HR.out]
    exact ⟨rfl, below_drawn ((HB.out.alloc HB.out.size _).alloc (by have := HB.out.size; simp; omega) _)⟩
  · rw [hx] at hr
    obtain ⟨c, K, C, rfl, hF, hb⟩ := hr
    obtain ⟨hwf, hsm⟩ := wholeP_bd hs' hx
    have ⟨o1, o2⟩ := hF.pv.one
    have HW : Hid (∀ W, W = (w1.alloc (.cells #[.int .i64 c.kind, c.is, .bool c.plain, .int .i32 c.r, c.kids, .int .i64 c.least, .int .i64 c.most, .bool c.brace, .int .i64 c.n] 92)).alloc (.cells #[.int .i64 0, .int .i64 0] 94) →
        Below w1.heap.size w1 W ∧ W.heap.size = w1.heap.size + 2 ∧ Cells9 W w1.heap.size 0 c ∧ ∀ j, W.frozen? ⟨w1.heap.size, j, none⟩ = false) := by
      rintro W rfl
      refine ⟨((Below.refl _ _).alloc (Nat.le_refl _) _).alloc (by simp) _, by simp, ?_, ?_⟩
      · constructor <;> simp [go_sem]
      · intro j; simp [go_sem]
    have HB := Lib.hid hb
    have HF := Lib.hid hF
    have HWF := Lib.hid hwf
    have HSM := Lib.hid hsm
    have HX := Lib.hid hx
    have HS := Lib.hid hs
    have hcb := Re.cnt_bd r hwf
    clear hb hF hwf hsm hx hs
    go_wp2_with fail
    generalize hWe : (w1.alloc (.cells #[.int .i64 c.kind, c.is, .bool c.plain, .int .i32 c.r, c.kids, .int .i64 c.least, .int .i64 c.most, .bool c.brace, .int .i64 c.n] 92)).alloc (.cells #[.int .i64 0, .int .i64 0] 94) = W at *
    obtain ⟨hBW, hsW, hC, hfz⟩ := HW.out W rfl
    have hFW := HF.out.below hBW
    have hnb : w1.heap.size ∉ K ++ C := fun h => by have := (HF.out.inb _ h).2; omega
    have HBW := Lib.hid hBW
    clear HW hBW hWe
    refine (count_all r HWF.out HSM.out W w1.heap.size 0 c K C hC (hfz _) hFW.pv hFW.sep hnb HWF.out HSM.out).mono ?_
    rintro e w2 ⟨rfl, hp2, hc2, hfr⟩
    have hB2 : Below w.heap.size w w2 := by
      have h1 := HB.out
      have h2 := HBW.out
      refine ⟨hfr.os.trans (h2.os.trans h1.os), hfr.tape.trans (h2.tape.trans h1.tape), hfr.output.trans (h2.output.trans h1.output), by have := h1.size; have := hfr.size; omega, fun k hk => ?_⟩
      have hkn : k ∉ K := fun h => by have := (HF.out.inb k (List.mem_append_left _ h)).1; omega
      have hs1 := h1.size
      rw [hfr.block k hkn (by omega), h2.block k (by omega), h1.block k hk]
    have hs2 : w2.heap.size = w1.heap.size + 2 := by rw [hfr.size, hsW]
    have HP2 := Lib.hid hp2
    have HC2 := Lib.hid hc2
    have HB2 := Lib.hid hB2
    clear hp2 hfr hB2 hFW hnb hC hfz
    generalize hcn : Re.cnt r = cnt at *
    have HCN := Lib.hid hcn
    clear hcn
    by_cases hbig : 2000 < cnt
    · have hR : compileP s = .error (7, 0) := by unfold compileP; rw [if_neg HS.out, HX.out]; simp [HCN.out, hbig]
      have HR := Lib.hid hR
      clear hc2 hR
      go_wp2_with fail
      go_ret3
      show CompSaid w (compileP s) _ _
      rw [HR.out]
      exact ⟨rfl, HB2.out⟩
    have hR : compileP s = .ok r := by unfold compileP; rw [if_neg HS.out, HX.out]; simp [HCN.out, hbig]
    have HGL := Lib.hid (HLEN.out r hR)
    have HR := Lib.hid hR
    clear hR HLEN HX HS
    obtain ⟨c0, c1, c2, c3, c4, c5, c6, c7, c8⟩ := hc2
    simp only [Nat.zero_add] at c0 c1 c2 c3 c4 c5 c6 c7 c8
    have hmk := make_one
    go_wp2_with fail
    go_region
    clear hmk c0 c1 c2 c3 c4 c5 c6 c7 c8
    have HW : Hid (∀ W, W = ((w2.alloc (.cells #[.nilFunc, .int .i64 0, .int .i64 0] 109)).alloc (.cells #[.int .i64 c.kind, c.is, .bool c.plain, .int .i32 c.r, c.kids, .int .i64 c.least, .int .i64 c.most, .bool c.brace, .int .i64 cnt, .int .i64 cnt, .slice (some ⟨w1.heap.size + 2, 0, none⟩) 1 1, .int .i64 0] 101)).drew → Below w2.heap.size w2 W ∧ W.heap.size = w1.heap.size + 4 ∧ Cells9 W (w1.heap.size + 3) 0 (c.withN cnt) ∧ W.cell? ⟨w1.heap.size + 3, 9, none⟩ = some (.int .i64 cnt) ∧ W.cell? ⟨w1.heap.size + 3, 10, none⟩ = some (.slice (some ⟨w1.heap.size + 2, 0, none⟩) 1 1) ∧ W.cell? ⟨w1.heap.size + 3, 11, none⟩ = some (.int .i64 0) ∧ (∀ j, W.frozen? ⟨w1.heap.size + 3, j, none⟩ = false) ∧ W.ownsRow (w1.heap.size + 2) 109 3 (.slice (some ⟨w1.heap.size + 2, 0, none⟩) 1 1) 1 [.nilFunc, .int .i64 0, .int .i64 0]) := by
      rintro W rfl
      have ho := World.ownsRow_lit (base := w1.heap.size + 2) (e := 109) (size := 3) w2 #[.nilFunc, .int .i64 0, .int .i64 0] 1 (by omega) (by decide) rfl
      rw [hs2] at ho
      have hn : w1.heap.size + 3 = (w2.alloc (.cells #[.nilFunc, .int .i64 0, .int .i64 0] 109)).heap.size := by simp; omega
      refine ⟨(((Below.refl _ _).alloc (Nat.le_refl _) _).alloc (by simp) _).drew, by simp; omega, ?_, ?_, ?_, ?_, ?_, (ho.alloc _).drew⟩
      · rw [hn]; constructor <;> simp [go_sem]
      · rw [hn]; simp [go_sem]
      · rw [hn]; simp [go_sem]
      · rw [hn]; simp [go_sem]
      · intro j; rw [hn]; simp [go_sem]
    generalize hWe : ((w2.alloc (.cells #[.nilFunc, .int .i64 0, .int .i64 0] 109)).alloc (.cells #[.int .i64 c.kind, c.is, .bool c.plain, .int .i32 c.r, c.kids, .int .i64 c.least, .int .i64 c.most, .bool c.brace, .int .i64 cnt, .int .i64 cnt, .slice (some ⟨w1.heap.size + 2, 0, none⟩) 1 1, .int .i64 0] 101)).drew = W at *
    obtain ⟨hBW, hsW, hCW, g9, g10, g11, gf, hoW⟩ := HW.out W rfl
    clear HW hWe
    have hrb : w1.heap.size + 3 < W.heap.size := by omega
    have hsz0 := HB.out.size
    have hB3 := HB2.out.trans (hBW.mono (B' := w.heap.size) (by omega))
    have hlow : ∀ k, k ∈ K ++ C → w.heap.size ≤ k ∧ k + 1 < w1.heap.size + 3 := fun k hk => by have := HF.out.inb k hk; omega
    have hlow0 : ∀ k, k ∈ K ++ C → w.heap.size ≤ k := fun k hk => (HF.out.inb k hk).1
    have hp3 := HP2.out.like (w' := W) ⟨fun k hk => hBW.block k (by have := (HF.out.inb k hk).2; omega), hBW.size⟩
    have hc3 := HC2.out.like (hBW.block w1.heap.size (by omega))
    have hG0 : Gr (w1.heap.size + 3) (.slice (some ⟨w1.heap.size + 2, 0, none⟩) 1 1) [⟨.nilFunc, 0, 0⟩] W := ⟨g10, gf _, hoW, fun e => by have e' : w1.heap.size + 2 = w1.heap.size + 3 := (by injection e); omega⟩
    have hN0 : NRep w.heap.size W (w1.heap.size + 3 - 1) [⟨.nilFunc, 0, 0⟩] [.ways 0 0] := ⟨⟨rfl, rfl, rfl⟩, trivial⟩
    obtain ⟨c0, c1, c2, c3, c4, c5, c6, c7, c8⟩ := hc3
    simp only [Nat.zero_add] at c0 c1 c2 c3 c4 c5 c6 c7 c8
    have HB3 := Lib.hid hB3
    have HP3 := Lib.hid hp3
    have HG0 := Lib.hid hG0
    have HN0 := Lib.hid hN0
    have HLO := Lib.hid hlow
    have HL0 := Lib.hid hlow0
    have HCW := Lib.hid hCW
    have HG9 := Lib.hid g9
    have HG11 := Lib.hid g11
    have HGF := Lib.hid gf
    clear hBW hB3 hp3 hG0 hN0 hlow hlow0 hCW g9 g10 g11 gf hoW HP2 HC2 HB2 HBW hsW
    go_wp2_with fail
    refine (add_all r HWF.out HSM.out w.heap.size W (w1.heap.size + 3) _ _ _ (c.withN cnt) K C 0 HP3.out HLO.out HG0.out HN0.out hrb HGL.out).mono ?_
    rintro e w4 ⟨rfl, v4, ns4, hG4, hN4, hM4⟩
    have d11 := (hM4.cell_rb (j := 11) (by omega)).trans HG11.out
    have df := (hM4.frozen_rb (j := 11)).trans (HGF.out 11)
    have HG4 := Lib.hid hG4
    have HN4 := Lib.hid hN4
    have HM4 := Lib.hid hM4
    clear hG4 hN4 hM4 c0 c1 c2 c3 c4 c5 c6 c7 c8
    go_wp2_with fail
    go_ret3
    show CompSaid w (compileP s) _ _
    rw [HR.out]
    change CompSaid w (Except.ok r) _ (w4.setCell ⟨w1.heap.size + 3, 11, none⟩ (.int .i64 (Re.add r 0 [.ways 0 0]).1))
    have hcell : ∀ j, j ≠ 10 → j ≠ 11 → (w4.setCell ⟨w1.heap.size + 3, 11, none⟩ (.int .i64 (Re.add r 0 [.ways 0 0]).1)).cell? ⟨w1.heap.size + 3, j, none⟩ = W.cell? ⟨w1.heap.size + 3, j, none⟩ := fun j h1 h2 =>
      (World.cell?_setCell_other _ _ _ _ (by simp)).trans (HM4.out.cell_rb h1)
    have hsz4 := HM4.out.size
    have hst : ∀ k, k ≠ w1.heap.size + 3 → (w4.setCell ⟨w1.heap.size + 3, 11, none⟩ (.int .i64 (Re.add r 0 [.ways 0 0]).1)).heap[k]? = w4.heap[k]? := fun k hk => setCell_block_ne _ _ _ _ hk
    have hss : (w4.setCell ⟨w1.heap.size + 3, 11, none⟩ (.int .i64 (Re.add r 0 [.ways 0 0]).1)).heap.size = w4.heap.size := setCell_size _ _ _
    refine ⟨w1.heap.size + 3, c.withN cnt, K, C, v4, ns4, rfl, ⟨?_, ?_, HLO.out, ?_, ?_, ?_, ?_, ?_⟩, by omega, HL0.out, ?_⟩
    · have hC := HCW.out
      exact ⟨(hcell _ (by omega) (by omega)).trans hC.c0, (hcell _ (by omega) (by omega)).trans hC.c1, (hcell _ (by omega) (by omega)).trans hC.c2, (hcell _ (by omega) (by omega)).trans hC.c3, (hcell _ (by omega) (by omega)).trans hC.c4, (hcell _ (by omega) (by omega)).trans hC.c5, (hcell _ (by omega) (by omega)).trans hC.c6, (hcell _ (by omega) (by omega)).trans hC.c7, (hcell _ (by omega) (by omega)).trans hC.c8⟩
    · refine HP3.out.like ⟨fun k hk => ?_, by omega⟩
      have hlo := HLO.out k hk
      rw [hst k (by omega)]
      exact HM4.out.block (by omega)
    · rw [HCN.out]; exact (hcell 9 (by omega) (by omega)).trans HG9.out
    · have h := HG4.out
      refine ⟨(World.cell?_setCell_other _ _ _ _ (by simp)).trans h.cell, by rw [World.frozen?_setCell]; exact h.free, h.own.kept (setCell_grown _ _ _) (.inr h.ne), h.ne⟩
    · exact HN4.out.like (fun k _ hk => hst k (by omega)) (Nat.le_of_eq hss.symm)
    · exact World.cell?_setCell_same _ _ _ d11
    · omega
    · refine (HB3.out.trans (HM4.out.below.mono (by omega))).setCell (p := ⟨w1.heap.size + 3, 11, none⟩) (by simp; omega) _

end Go.Proofs.YtgcmjidphoklkaaGreatDoor.Rx
