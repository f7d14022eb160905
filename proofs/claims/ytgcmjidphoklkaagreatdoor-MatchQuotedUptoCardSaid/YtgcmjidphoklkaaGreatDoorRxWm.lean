/- Walks over layer 5's reader: a whole text, and the fault that its deferred function catches. -/
import Derived.Test.YtgcmjidphoklkaaGreatDoorRxWl
import Derived.Defers
import Derived.Recover
namespace Go.Proofs.YtgcmjidphoklkaaGreatDoor.Rx
open Go.RowKit Go.Sort

/-- The deferred function of a call that returns: nothing to catch. -/
theorem catch_idle (q : Addr) (w : World) :
    CallsD Tryz.prog 55 #[.pointer (some q)] .returning w fun e u' w' => e = .returned (.tuple #[]) ∧ u' = .returning ∧ w' = w := by
  refine callsD_of_wpS Tryz.func55 rfl fun c₀ cs hu => ?_
  apply wpS_seq
  apply wpS_region
  simp [wpOpsS, go_sem, recoverD, hu, Tryz.ntmps55, Exit.thenS]
  refine wpS_of_wp ?_
  cases c₀
  simp only [bodyPostS, results, Tryz.results55]
  go_wp2

theorem fault_yes (x : Value) (w : World) : (Instr.typeAssert (.iface 94 x) 20 94 true).run Tryz.prog w = .ok (.tuple #[x, .bool true]) w := by kernel_rfl

set_option maxRecDepth 8000 in
/-- The deferred function of a call that panics with a fault: the fault is caught and laid. -/
theorem catch_fault (q : Nat) (en pl x y : Int) (w : World) (h0 : w.cell? ⟨q, 0, none⟩ = some (.int .i64 x)) (h1 : w.cell? ⟨q, 1, none⟩ = some (.int .i64 y)) (hz : ∀ o, w.frozen? ⟨q, o, none⟩ = false) :
    CallsD Tryz.prog 55 #[.pointer (some ⟨q, 0, none⟩)] (.panicking (faultV en pl)) w fun e u' w' => e = .returned (.tuple #[]) ∧ u' = .panicking [{ v := .iface 94 (.agg #[.int .i64 en, .int .i64 pl]), recovered := true }] ∧
      w' = ((w.setCell ⟨q, 0, none⟩ (.int .i64 en)).setCell ⟨q, 1, none⟩ (.int .i64 pl)).alloc (.cells #[.int .i64 en, .int .i64 pl] 94) := by
  refine callsD_of_wpS Tryz.func55 rfl fun c₀ cs hu => ?_
  apply wpS_seq
  apply wpS_region
  simp [wpOpsS, go_sem, recoverD, hu, Tryz.ntmps55, Exit.thenS, faultV]
  refine wpS_of_wp ?_
  generalize hQ : (fun e a' w' => bodyPostS _ _ _ _ _ e a' _ w') = Q
  replace hQ : ∀ a, a.defers = [] → Q .normal a (((w.setCell ⟨q, 0, none⟩ (.int .i64 en)).setCell ⟨q, 1, none⟩ (.int .i64 pl)).alloc (.cells #[.int .i64 en, .int .i64 pl] 94)) := by
    rintro a ha
    subst hQ
    cases c₀
    simp_all [bodyPostS, results, Tryz.results55]
  have HQ := Lib.hid hQ
  clear hu hQ
  have hta := fault_yes
  have hql : q < w.heap.size := by
    unfold World.cell? at h0
    rcases Nat.lt_or_ge q w.heap.size with h | h
    · exact h
    · simp [Array.getElem?_eq_none h] at h0
  have hA : Below w.heap.size w (w.alloc (.cells #[.int .i64 en, .int .i64 pl] 94)) := (Below.refl _ _).alloc (Nat.le_refl _) _
  have a0 := (hA.cell (p := ⟨q, 0, none⟩) hql).trans h0
  have a1 := (hA.cell (p := ⟨q, 1, none⟩) hql).trans h1
  have az : ∀ o, (w.alloc (.cells #[.int .i64 en, .int .i64 pl] 94)).frozen? ⟨q, o, none⟩ = false := fun o => (hA.frozen (p := ⟨q, o, none⟩) hql).trans (hz o)
  have az0 := az 0
  have az1 := az 1
  clear hA
  change Code.wp _ _ _ ⟨#[.pointer (some ⟨q, 0, none⟩), undef, undef, undef, .iface 94 (.agg #[.int .i64 en, .int .i64 pl]), undef, undef, undef, undef, undef, undef], []⟩ _
  go_wp2_with fail
  exact HQ.out _ rfl

theorem cell_alloc_old {w : World} {o : Obj} {p : Addr} (h : p.block < w.heap.size) : (w.alloc o).cell? p = w.cell? p := ((Below.refl w.heap.size w).alloc (Nat.le_refl _) o).cell h
theorem block_alloc_old {w : World} {o : Obj} {k : Nat} (h : k < w.heap.size) : (w.alloc o).heap[k]? = w.heap[k]? := ((Below.refl w.heap.size w).alloc (Nat.le_refl _) o).block k h

def zeroP9 : P9 := ⟨0, .nilFunc, false, 0, .slice none 0 0, 0, 0, false, 0⟩

/-- What 'whole' hands back. -/
def WholeSaid (w : World) : PRes Re → Ending → World → Prop
  | .ok r, e, w' => ∃ c K C, e = .returned (.tuple #[c.agg, .agg #[.int .i64 0, .int .i64 0]]) ∧ Fresh w.heap.size w' r c K C ∧ Below w.heap.size w w'
  | .error (en, pl), e, w' => ∃ c : P9, c.is.oneCell' = true ∧ c.kids.oneCell' = true ∧ e = .returned (.tuple #[c.agg, .agg #[.int .i64 en, .int .i64 pl]]) ∧ Below w.heap.size w w'

theorem whole_any (w : World) (s : ByteArray) (hs : s.size ≤ 256) (hT : Lib.Utf8Tabs 0 1 w) (h2 : 2 ≤ w.heap.size) :
    Calls Tryz.prog 42 #[.string s] w (WholeSaid w (wholeP s)) := by
  have hmf : ∀ (fn : Fn) (first cap : Array Value) (w : World), (Instr.makeFunc fn first cap).run Tryz.prog w = .ok (.func fn first cap) w := fun _ _ _ _ => rfl
  have HW : Hid (∀ W, W = ((w.alloc zero9).alloc (.cells #[.int .i64 0, .int .i64 0] 94)).alloc (.cells #[.string s, .int .i64 0] 130) →
      Below w.heap.size w W ∧ Z9 W w.heap.size ∧ W.cell? ⟨w.heap.size + 1, 0, none⟩ = some (.int .i64 0) ∧ W.cell? ⟨w.heap.size + 1, 1, none⟩ = some (.int .i64 0) ∧ (∀ o, W.frozen? ⟨w.heap.size + 1, o, none⟩ = false) ∧ Rd W (w.heap.size + 2) s 0) := by
    rintro W rfl
    refine ⟨(((Below.refl _ _).alloc (Nat.le_refl _) _).alloc (by simp) _).alloc (by simp; omega) _, ?_, ?_, ?_, ?_, ?_⟩
    · have h1 := Z9.new w
      have hb : Below (w.alloc zero9).heap.size (w.alloc zero9) (((w.alloc zero9).alloc (.cells #[.int .i64 0, .int .i64 0] 94)).alloc (.cells #[.string s, .int .i64 0] 130)) := ((Below.refl _ _).alloc (Nat.le_refl _) _).alloc (by simp) _
      exact h1.like (hb.block _ h1.lt)
    · simp [go_sem]
    · simp [go_sem]
    · intro o; simp [go_sem]
    · constructor <;> simp [go_sem]
  have HT := Lib.hid hT
  clear hT
  go_enter_defers Tryz.func42, Tryz.ntmps42
  go_wp2_with fail
  clear hmf
  generalize hWe : ((w.alloc zero9).alloc (.cells #[.int .i64 0, .int .i64 0] 94)).alloc (.cells #[.string s, .int .i64 0] 130) = W at *
  obtain ⟨hBW, hZ, f0, f1, ff, hRd⟩ := HW.out W rfl
  clear HW
  refine (choice_all s hs 51 0 rfl (by omega) W (w.heap.size + 1 + 1) 0 hRd (by omega) (by omega) (Utf8Tabs_below HT.out hBW)).mono ?_
  rintro e w1 hr
  rcases hx : choiceP s 51 0 0 with ⟨en, pl⟩ | ⟨t0, j0⟩
  · rw [hx] at hr
    obtain ⟨rfl, jj, hm⟩ := hr
    have hR : wholeP s = .error (en, pl) := by unfold wholeP; rw [hx]
    rw [hR]
    have hb1 : Below w.heap.size w w1 := (hBW.setCell (p := ⟨w.heap.size + 1 + 1, 1, none⟩) (by simp; omega) (.int .i64 jj)).trans (hm.mono hBW.size)
    have hsW : W.heap.size = w.heap.size + 1 + 1 + 1 := by rw [← hWe]; simp
    have hblk : ∀ k, k < w.heap.size + 1 + 1 → w1.heap[k]? = W.heap[k]? := fun k hk => (hm.block k (by omega)).trans (setCell_block_ne _ _ _ _ (by simp; omega))
    have hZ1 := hZ.like (hblk w.heap.size (by omega))
    have f01 := (World.cell?_of_block (w := W) (w' := w1) (a := ⟨w.heap.size + 1, 0, none⟩) (hblk _ (by simp))).trans f0
    have f11 := (World.cell?_of_block (w := W) (w' := w1) (a := ⟨w.heap.size + 1, 1, none⟩) (hblk _ (by simp))).trans f1
    have ff1 : ∀ o, w1.frozen? ⟨w.heap.size + 1, o, none⟩ = false := fun o => (World.frozen?_of_block (w := W) (w' := w1) (a := ⟨w.heap.size + 1, o, none⟩) (hblk _ (by simp))).trans (ff o)
    refine leaves_cons (f := 55) (args := #[.pointer (some ⟨w.heap.size + 1, 0, none⟩)]) (by simp) (by simp [go_sem]) ?_
    refine (catch_fault (w.heap.size + 1) en pl 0 0 w1 f01 f11 ff1).mono ?_
    rintro e u' w2 ⟨rfl, rfl, he⟩
    have hb2 : Below w.heap.size w w2 := by
      rw [he]
      exact ((hb1.setCell (p := ⟨w.heap.size + 1, 0, none⟩) (by simp) _).setCell (p := ⟨w.heap.size + 1, 1, none⟩) (by simp) _).alloc (by simp; exact hb1.size) _
    have hl1 : w.heap.size + 1 < w1.heap.size := by have := hm.size; omega
    have g0 : w2.cell? ⟨w.heap.size + 1, 0, none⟩ = some (.int .i64 en) := by rw [he, cell_alloc_old (by simpa [setCell_size] using hl1)]; simp [go_sem, f01]
    have g1 : w2.cell? ⟨w.heap.size + 1, 1, none⟩ = some (.int .i64 pl) := by rw [he, cell_alloc_old (by simpa [setCell_size] using hl1)]; simp [go_sem, f11]
    have hZ2 : Z9 w2 w.heap.size := by
      refine hZ1.like ?_
      rw [he, block_alloc_old (by simp; omega), setCell_block_ne _ _ _ _ (by simp), setCell_block_ne _ _ _ _ (by simp)]
    obtain ⟨z0, z1, z2, z3, z4, z5, z6, z7, z8, zf⟩ := hZ2
    clear he hZ1 f01 f11 ff1
    refine ⟨.tuple #[zeroP9.agg, .agg #[.int .i64 en, .int .i64 pl]], ?_, zeroP9, rfl, rfl, rfl, hb2⟩
    simp [results, Tryz.results42, go_sem, zeroP9, *]
  · rw [hx] at hr
    obtain ⟨c9, K0, C0, rfl, hF, hm⟩ := hr
    have hbd := choiceP_bd 51 0 0 t0 j0 (Nat.zero_le _) hx
    have hb1 : Below w.heap.size w w1 := (hBW.setCell (p := ⟨w.heap.size + 1 + 1, 1, none⟩) (by simp; omega) (.int .i64 j0)).trans (hm.mono hBW.size)
    have hsW : W.heap.size = w.heap.size + 1 + 1 + 1 := by rw [← hWe]; simp
    have hblk : ∀ k, k < w.heap.size + 1 + 1 → w1.heap[k]? = W.heap[k]? := fun k hk => (hm.block k (by omega)).trans (setCell_block_ne _ _ _ _ (by simp; omega))
    have hZ1 := hZ.like (hblk w.heap.size (by omega))
    have f01 := (World.cell?_of_block (w := W) (w' := w1) (a := ⟨w.heap.size + 1, 0, none⟩) (hblk _ (by simp))).trans f0
    have f11 := (World.cell?_of_block (w := W) (w' := w1) (a := ⟨w.heap.size + 1, 1, none⟩) (hblk _ (by simp))).trans f1
    have ff1 : ∀ o, w1.frozen? ⟨w.heap.size + 1, o, none⟩ = false := fun o => (World.frozen?_of_block (w := W) (w' := w1) (a := ⟨w.heap.size + 1, o, none⟩) (hblk _ (by simp))).trans (ff o)
    obtain ⟨r0, r1, rf⟩ := hm.rd hRd
    obtain ⟨hv1, hv2⟩ := hF.pv.one
    have hR : wholeP s = if j0 < s.size then .error (50, (j0 : Int)) else .ok t0 := by unfold wholeP; rw [hx]
    have hl1 : w.heap.size + 1 + 1 < w1.heap.size := by have := hm.size; omega
    rw [hsW] at hF
    have HF := Lib.hid hF
    have HB1 := Lib.hid hb1
    generalize wholeP s = R at *
    have HR := Lib.hid hR
    clear hx hF hm hblk hZ hWe hsW f0 f1 ff hBW hRd hb1 hR
    obtain ⟨ck, ci, cp, cr, cd, cl, cm, cb, cn⟩ := c9
    simp only at hv1 hv2
    obtain ⟨z0, z1, z2, z3, z4, z5, z6, z7, z8, zf⟩ := hZ1
    have ff10 := ff1 0
    have ff11 := ff1 1
    have hb0 := hbd.2.1
    have hone := run_store_one Tryz.prog
    generalize hPe : w.heap.size = P at *
    go_wp2_with fail
    · refine (fail_any _ (P + 1 + 1) 50 j0).mono ?_
      rintro e w3 ⟨rfl, he⟩
      change put9 w1 P (.int .i64 ck) ci (.bool cp) (.int .i32 cr) cd (.int .i64 cl) (.int .i64 cm) (.bool cb) (.int .i64 cn) = w3 at he
      have hb3 : Below P w w3 := by rw [← he]; exact put9_below HB1.out P (Nat.le_refl _) _ _ _ _ _ _ _ _ _
      have hE : R = .error (50, (j0 : Int)) := by rw [HR.out, if_pos (by assumption)]
      have hs3 : w3.heap.size = w1.heap.size := by rw [← he]; exact put9_size _ _ _ _ _ _ _ _ _ _ _
      have f03 := (World.cell?_of_block (w := w1) (w' := w3) (a := ⟨P + 1, 0, none⟩) (by rw [← he]; exact put9_block _ _ _ _ _ _ _ _ _ _ _ (by simp))).trans f01
      have f13 := (World.cell?_of_block (w := w1) (w' := w3) (a := ⟨P + 1, 1, none⟩) (by rw [← he]; exact put9_block _ _ _ _ _ _ _ _ _ _ _ (by simp))).trans f11
      have ff3 : ∀ o, w3.frozen? ⟨P + 1, o, none⟩ = false := fun o => (World.frozen?_of_block (w := w1) (w' := w3) (a := ⟨P + 1, o, none⟩) (by rw [← he]; exact put9_block _ _ _ _ _ _ _ _ _ _ _ (by simp))).trans (ff1 o)
      have hc3 : Cells9 w3 P 0 ⟨ck, ci, cp, cr, cd, cl, cm, cb, cn⟩ := by
        rw [← he]
        constructor <;> simp [go_sem, z0, z1, z2, z3, z4, z5, z6, z7, z8]
      rw [hE]
      refine leaves_cons (f := 55) (args := #[.pointer (some ⟨P + 1, 0, none⟩)]) (by simp) (by simp [go_sem]) ?_
      refine (catch_fault (P + 1) 50 j0 0 0 w3 f03 f13 ff3).mono ?_
      rintro e u' w2 ⟨rfl, rfl, he2⟩
      have hb2 : Below P w w2 := by
        rw [he2]
        exact ((hb3.setCell (p := ⟨P + 1, 0, none⟩) (by simp) _).setCell (p := ⟨P + 1, 1, none⟩) (by simp) _).alloc (by simp; omega) _
      have g0 : w2.cell? ⟨P + 1, 0, none⟩ = some (.int .i64 50) := by rw [he2, cell_alloc_old (by simp; omega)]; simp [go_sem, f03]
      have g1 : w2.cell? ⟨P + 1, 1, none⟩ = some (.int .i64 j0) := by rw [he2, cell_alloc_old (by simp; omega)]; simp [go_sem, f13]
      have hc2 : Cells9 w2 P 0 ⟨ck, ci, cp, cr, cd, cl, cm, cb, cn⟩ := by
        refine hc3.like ?_
        rw [he2, block_alloc_old (by simp; omega), setCell_block_ne _ _ _ _ (by simp), setCell_block_ne _ _ _ _ (by simp)]
      obtain ⟨x0, x1, x2, x3, x4, x5, x6, x7, x8⟩ := hc2
      simp only [Nat.zero_add] at x0 x1 x2 x3 x4 x5 x6 x7 x8
      clear he he2 hc3 f03 f13 ff3 f01 f11 ff1 z0 z1 z2 z3 z4 z5 z6 z7 z8 zf
      refine ⟨.tuple #[P9.agg ⟨ck, ci, cp, cr, cd, cl, cm, cb, cn⟩, .agg #[.int .i64 50, .int .i64 j0]], ?_, ⟨ck, ci, cp, cr, cd, cl, cm, cb, cn⟩, hv1, hv2, rfl, by rw [hPe]; exact hb2⟩
      simp [results, Tryz.results42, go_sem, *]
    · have hE : R = .ok t0 := by rw [HR.out, if_neg (by assumption)]
      have hm9 : ∀ w3, w3 = ((put9 (put9 w1 P (.int .i64 ck) ci (.bool cp) (.int .i32 cr) cd (.int .i64 cl) (.int .i64 cm) (.bool cb) (.int .i64 cn)) P (.int .i64 ck) ci (.bool cp) (.int .i32 cr) cd (.int .i64 cl) (.int .i64 cm) (.bool cb) (.int .i64 cn)).setCell ⟨P + 1, 0, none⟩ (.int .i64 0)).setCell ⟨P + 1, 1, none⟩ (.int .i64 0) → Below P w w3 ∧ Cells9 w3 P 0 ⟨ck, ci, cp, cr, cd, cl, cm, cb, cn⟩ ∧ w3.cell? ⟨P + 1, 0, none⟩ = some (.int .i64 0) ∧ w3.cell? ⟨P + 1, 1, none⟩ = some (.int .i64 0) ∧ Fresh (P + 1 + 1 + 1) w3 t0 ⟨ck, ci, cp, cr, cd, cl, cm, cb, cn⟩ K0 C0 := by
        rintro w3 rfl
        refine ⟨?_, ?_, ?_, ?_, ?_⟩
        · exact ((put9_below (put9_below HB1.out P (Nat.le_refl _) _ _ _ _ _ _ _ _ _) P (Nat.le_refl _) _ _ _ _ _ _ _ _ _).setCell (p := ⟨P + 1, 0, none⟩) (by simp) _).setCell (p := ⟨P + 1, 1, none⟩) (by simp) _
        · have hc1 : Cells9 (put9 w1 P (.int .i64 ck) ci (.bool cp) (.int .i32 cr) cd (.int .i64 cl) (.int .i64 cm) (.bool cb) (.int .i64 cn)) P 0 ⟨ck, ci, cp, cr, cd, cl, cm, cb, cn⟩ := by
            constructor <;> simp [go_sem, z0, z1, z2, z3, z4, z5, z6, z7, z8]
          obtain ⟨y0, y1, y2, y3, y4, y5, y6, y7, y8⟩ := hc1
          simp only [Nat.zero_add] at y0 y1 y2 y3 y4 y5 y6 y7 y8
          generalize put9 w1 P (.int .i64 ck) ci (.bool cp) (.int .i32 cr) cd (.int .i64 cl) (.int .i64 cm) (.bool cb) (.int .i64 cn) = W8 at y0 y1 y2 y3 y4 y5 y6 y7 y8 ⊢
          constructor <;> simp [go_sem, y0, y1, y2, y3, y4, y5, y6, y7, y8]
        · simp [go_sem, f01]
        · simp [go_sem, f11]
        · refine ⟨HF.out.pv.like ⟨fun k hk => ?_, ?_⟩, HF.out.inb.mono (Nat.le_refl _) ?_, HF.out.sep⟩
          · have := HF.out.inb k hk
            rw [setCell_block_ne _ _ _ _ (by simp; omega), setCell_block_ne _ _ _ _ (by simp; omega), put9_block _ _ _ _ _ _ _ _ _ _ _ (by omega), put9_block _ _ _ _ _ _ _ _ _ _ _ (by omega)]
          · simp
          · simp
      rw [hE]
      refine leaves_cons (f := 55) (args := #[.pointer (some ⟨P + 1, 0, none⟩)]) (by simp) (by simp [go_sem]) ?_
      refine (catch_idle ⟨P + 1, 0, none⟩ _).mono ?_
      rintro e u' w3 ⟨rfl, rfl, he⟩
      obtain ⟨hb2, hc2, g0, g1, hF2⟩ := hm9 w3 he
      obtain ⟨x0, x1, x2, x3, x4, x5, x6, x7, x8⟩ := hc2
      simp only [Nat.zero_add] at x0 x1 x2 x3 x4 x5 x6 x7 x8
      clear he hm9 f01 f11 ff1 z0 z1 z2 z3 z4 z5 z6 z7 z8 zf
      refine ⟨.tuple #[P9.agg ⟨ck, ci, cp, cr, cd, cl, cm, cb, cn⟩, .agg #[.int .i64 0, .int .i64 0]], ?_, ⟨ck, ci, cp, cr, cd, cl, cm, cb, cn⟩, K0, C0, rfl, ?_, by rw [hPe]; exact hb2⟩
      · simp [results, Tryz.results42, go_sem, *]
      · rw [hPe]
        exact ⟨hF2.pv, fun k hk => ⟨by have := (hF2.inb k hk).1; omega, (hF2.inb k hk).2⟩, hF2.sep⟩

end Go.Proofs.YtgcmjidphoklkaaGreatDoor.Rx
