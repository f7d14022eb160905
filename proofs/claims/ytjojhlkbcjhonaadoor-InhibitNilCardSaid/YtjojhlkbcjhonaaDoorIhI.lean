/- Walk over layer 6: Compile of one matcher. -/
import Derived.Test.YtjojhlkbcjhonaaDoorIhH
import Derived.Deep.AppendLies
namespace Go.Proofs.YtjojhlkbcjhonaaDoor.Ih
open Go.RowKit

attribute [local go_sem] run_store_one

theorem infoPtr : (Tryd.prog.info? 130).map (fun i => (i.zero, i.size, i.bytes)) = some (some (.pointer none), 1, 8) := by kernel_rfl

/-- A compiled list of one matcher: its own three blocks lie below B. -/
structure ListAt (w : World) (xb gb mb : Nat) (m : Mat) (B : Nat) : Prop where
  cell : ∃ cap, w.cell? ⟨xb, 0, none⟩ = some (.slice (some ⟨gb, 0, none⟩) 1 cap)
  row : w.cell? ⟨gb, 0, none⟩ = some (.pointer (some ⟨mb, 0, none⟩))
  mt : MtS w mb m.op m.n m.v B
  lt1 : xb < B
  lt2 : gb < B
  lt3 : mb < B
  le : B ≤ w.heap.size
  ne1 : mb ≠ xb
  ne2 : mb ≠ gb

/-- A matcher that nobody has asked yet. -/
def Fresh1 (w : World) (mb : Nat) (m : Mat) : Prop := ∃ says, MtAt w mb m.op m.n m.v 0 0 0 says

theorem Fresh1.below {w w' : World} {mb : Nat} {m : Mat} (h : Fresh1 w mb m) (hb : Below w.heap.size w w') : Fresh1 w' mb m := h.imp fun _ k => k.like (hb.block mb k.lt) hb.size

theorem comp_end {w w2 w7 : World} {xb mb gg cap : Nat} {m : Mat} {o : Obj} {says : Value} (hb : Below w.heap.size w w2) (hx : w.heap.size ≤ xb) (hx2 : xb < w2.heap.size) (hc : w2.cell? ⟨xb, 0, none⟩ = some (.slice none 0 0)) (hf : w2.frozen? ⟨xb, 0, none⟩ = false) (hm : MtAt w2 mb m.op m.n m.v 0 0 0 says) (hxm : xb < mb)
    (hgr : (w2.alloc o).grownBy w7 (Value.slice none 0 0).ownBlock) (hown : w7.ownsRow w.heap.size 130 1 (.slice (some ⟨gg, 0, none⟩) (0 + 1) cap) (0 + 1) ([] ++ [.pointer (some ⟨mb, 0, none⟩)])) (hat : (Value.slice none 0 0).ownBlock = some gg ∨ gg = w2.heap.size + 1) (hlt : gg < w7.heap.size) :
    w7.cell? ⟨xb, 0, none⟩ = some (.slice none 0 0) ∧ w7.frozen? ⟨xb, 0, none⟩ = false ∧ Below w.heap.size w (w7.setCell ⟨xb, 0, none⟩ (.slice (some ⟨gg, 0, none⟩) 1 cap)) ∧
      ListAt (w7.setCell ⟨xb, 0, none⟩ (.slice (some ⟨gg, 0, none⟩) 1 cap)) xb gg mb m (w7.setCell ⟨xb, 0, none⟩ (.slice (some ⟨gg, 0, none⟩) 1 cap)).heap.size ∧ w.heap.size ≤ gg ∧ w.heap.size ≤ mb ∧ Fresh1 (w7.setCell ⟨xb, 0, none⟩ (.slice (some ⟨gg, 0, none⟩) 1 cap)) mb m := by
  have hg : gg = w2.heap.size + 1 := hat.elim (fun h => by cases h) id
  have hsz := hb.size
  have hs7 := hgr.size
  have e7 : ∀ k, k < w2.heap.size → w7.heap[k]? = w2.heap[k]? := fun k hk => (hgr.block k (by simp; omega) (fun e => by cases e)).trans (Below.heap_alloc _ _ _ hk)
  have c7 := (World.cell?_of_block (w := w2) (w' := w7) (a := ⟨xb, 0, none⟩) (e7 xb hx2)).trans hc
  have f7 := (World.frozen?_of_block (w := w2) (w' := w7) (a := ⟨xb, 0, none⟩) (e7 xb hx2)).trans hf
  have hz : (w7.setCell ⟨xb, 0, none⟩ (.slice (some ⟨gg, 0, none⟩) 1 cap)).heap.size = w7.heap.size := by simp [World.setCell]
  have hml := hm.lt
  have hs7' : w2.heap.size + 1 ≤ w7.heap.size := by simpa using hs7
  have hb7 : Below w.heap.size w w7 := (hb.trans ((Below.refl _ _).alloc hsz o)).grown hgr (by simp; omega) (fun k hk => by cases hk)
  refine ⟨c7, f7, hb7.setCell (p := ⟨xb, 0, none⟩) hx _, ⟨⟨cap, cell?_setCell_at c7⟩, ?_, ?_, by omega, by omega, by omega, Nat.le_refl _, by omega, by omega⟩, by omega, by omega, says, hm.like ((setCell_block_ne _ _ _ _ (by show mb ≠ xb; omega)).trans (e7 mb hml)) (by omega)⟩
  · refine (World.cell?_setCell_other _ ⟨xb, 0, none⟩ ⟨gg, 0, none⟩ _ (fun e => by injection e; omega)).trans ?_
    have := hown.cellAt 0 (by omega)
    simpa using this
  · refine ⟨by omega, .inl ⟨0, says, hm.like ?_ (by omega)⟩⟩
    exact (setCell_block_ne _ _ _ _ (by show mb ≠ xb; omega)).trans (e7 mb hml)

set_option maxRecDepth 100000 in
set_option maxHeartbeats 4000000 in
theorem compile_one (w : World) (b off c : Nat) (m : Mat) (hT : Lib.Utf8Tabs 0 1 w) (h2 : 2 ≤ w.heap.size) (hl : MatAt w b off [m]) (hlt : b < w.heap.size) (hok : m.Ok) :
    Calls Tryd.prog 51 #[.slice (some ⟨b, off, none⟩) 1 c] w (fun e w' => ∃ xb gb mb, e = .returned (.tuple #[.pointer (some ⟨xb, 0, none⟩), .int .i64 0, .int .i64 0]) ∧ Below w.heap.size w w' ∧ ListAt w' xb gb mb m w'.heap.size ∧ w.heap.size ≤ xb ∧ w.heap.size ≤ gb ∧ w.heap.size ≤ mb ∧ Fresh1 w' mb m) := by
  have HL := Lib.hid hl
  have HOK := Lib.hid hok
  have HT := Lib.hid hT
  clear hl hok hT
  go_enter Tryd.func51, Tryd.ntmps51
  go_wp2_with fail
  refine (rights_ok w b off c [m] HT.out h2 HL.out hlt (by simp) (by intro x hx; rw [List.mem_singleton.1 hx]; exact HOK.out)).mono ?_
  rintro e w1 ⟨rfl, hb1⟩
  have HB1 := Lib.hid hb1
  have hz1 := hb1.size
  have HW : Hid (∀ W, W = w1.alloc (.cells #[.slice none 0 0] 129) → Below w.heap.size w W ∧ W.heap.size = w1.heap.size + 1 ∧ W.cell? ⟨w1.heap.size, 0, none⟩ = some (.slice none 0 0) ∧ W.frozen? ⟨w1.heap.size, 0, none⟩ = false) := by
    rintro W rfl
    exact ⟨HB1.out.trans ((Below.refl _ _).alloc hz1 _), by simp, by simp, by simp⟩
  clear hb1
  go_wp2_with fail
  generalize hWe : w1.alloc (.cells #[.slice none 0 0] 129) = W at *
  obtain ⟨hbW, hszW, d0, df⟩ := HW.out W rfl
  clear HW hWe
  have HBW := Lib.hid hbW
  have ⟨c1, c2, c3⟩ := HL.out.below hbW hlt 0 m rfl
  simp only [Nat.zero_mul, Nat.add_zero] at c1 c2 c3
  clear hbW
  generalize hxb : w1.heap.size = xb at *
  have hbx : ¬ b = W.heap.size := by omega
  go_loopg [23] 1 (fun g i wr => (g = 1 ∧ i = .int .i64 0 ∧ wr = W) ∨ (g = 0 ∧ i = .int .i64 1 ∧ ∃ gb mb, Below w.heap.size w wr ∧ ListAt wr xb gb mb m wr.heap.size ∧ w.heap.size ≤ gb ∧ w.heap.size ≤ mb ∧ Fresh1 wr mb m))
  case atStart => exact .inl ⟨rfl, rfl, rfl⟩
  case round =>
    rcases hrel with ⟨rfl, rfl, rfl⟩ | ⟨rfl, rfl, hfin⟩
    · obtain ⟨op, n, v⟩ := m
      simp only at c1 c2 c3
      go_wp2_with fail
      refine wp_region_any (by kernel_rfl) ?_
      change wpAny _ _ _ _ _ _ _ (World.drew _)
      have HD : Hid (∀ WD, WD = (wr.alloc (.cells #[.int .i64 op, .string n, .string v] 119)).drew → Below w.heap.size w WD ∧ WD.heap.size = xb + 2 ∧ WD.cell? ⟨xb, 0, none⟩ = some (.slice none 0 0) ∧ WD.frozen? ⟨xb, 0, none⟩ = false ∧ WD.cell? ⟨xb + 1, 0, none⟩ = some (.int .i64 op) ∧ WD.cell? ⟨xb + 1, 1, none⟩ = some (.string n) ∧ WD.cell? ⟨xb + 1, 2, none⟩ = some (.string v)) := by
        rintro WD rfl
        have hA : Below wr.heap.size wr (wr.alloc (.cells #[.int .i64 op, .string n, .string v] 119)).drew := ((Below.refl _ _).alloc (Nat.le_refl _) _).drew
        rw [← hszW]
        exact ⟨HBW.out.trans (hA.mono (by omega)), by simp; omega, (hA.cell (p := ⟨xb, 0, none⟩) (by show xb < wr.heap.size; omega)).trans d0, (hA.frozen (p := ⟨xb, 0, none⟩) (by show xb < wr.heap.size; omega)).trans df, by simp, by simp, by simp⟩
      generalize hDe : (wr.alloc (.cells #[.int .i64 op, .string n, .string v] 119)).drew = WD
      obtain ⟨hbD, hszD, x0, x0f, q0, q1, q2⟩ := HD.out WD hDe.symm
      have HBD := Lib.hid hbD
      obtain ⟨i0, hi0, hz0, hz1', hz2'⟩ := info_parts infoPtr
      clear HD hDe hbD d0 df c1 c2 c3
      refine wpAny_take (i := 0) (v := .pointer (some ⟨xb, 0, none⟩)) rfl (by kernel_rfl) (by kernel_rfl) (by kernel_rfl) (fun _ _ _ h => h) (Or.inl ⟨by rfl, by intro w; go_simp⟩) ?_
      refine wpAny_take (i := 1) (v := .pointer (some ⟨xb, 0, none⟩)) rfl (by kernel_rfl) (by kernel_rfl) (by kernel_rfl) (fun _ _ _ h => h) (Or.inl ⟨by rfl, by intro w; go_simp⟩) ?_
      refine wpAny_take (i := 2) (v := .pointer (some ⟨xb, 0, none⟩)) rfl (by kernel_rfl) (by kernel_rfl) (by kernel_rfl) (fun _ _ _ h => h) (Or.inl ⟨by rfl, by intro w; go_simp⟩) ?_
      refine wpAny_take (i := 3) (v := .pointer (some ⟨xb, 0, none⟩)) rfl (by kernel_rfl) (by kernel_rfl) (by kernel_rfl) (fun _ _ _ h => h) (Or.inl ⟨by rfl, by intro w; go_simp⟩) ?_
      refine wpAny_ready (rs := [4, 5]) (by kernel_rfl) (by simp) ?_
      refine AllReady.cons rfl (fun Kk hKk => ?_) (AllReady.cons rfl (fun Kk hKk => ?_) AllReady.nil)
      · skip
        go_simp
        refine hKk _ _ ?_
        clear hKk Kk
        refine wpAny_ready (rs := [5]) (by kernel_rfl) (by simp) ?_
        refine AllReady.cons rfl (fun Kk hKk => ?_) AllReady.nil
        go_simp
        refine hKk _ _ ?_
        clear hKk Kk
        refine wpAny_ready (rs := [6]) (by kernel_rfl) (by simp) ?_
        refine AllReady.cons rfl (fun Kk hKk => ?_) AllReady.nil
        go_simp
        refine (new_any _ op n v).mono ?_
        rintro e w2 ⟨mb, rfl, hmb, hb2, says, hmt⟩
        have HB2 := Lib.hid (HBD.out.trans (hb2.mono (by omega)))
        have HMT := Lib.hid hmt
        have hz2 := hb2.size
        have x2 := (hb2.cell (p := ⟨xb, 0, none⟩) (by show xb < WD.heap.size; omega)).trans x0
        have x2f := (hb2.frozen (p := ⟨xb, 0, none⟩) (by show xb < WD.heap.size; omega)).trans x0f
        have x3 : (w2.alloc (.cells #[.pointer (some ⟨mb, 0, none⟩)] 130)).cell? ⟨xb, 0, none⟩ = some (.slice none 0 0) := (World.cell?_alloc_past _ _ _ (by show xb < w2.heap.size; omega)).trans x2
        clear hb2 hmt
        refine hKk _ _ ?_
        clear hKk Kk
        refine wpAny_ready (rs := [7]) (by kernel_rfl) (by simp) ?_
        refine AllReady.cons rfl (fun Kk hKk => ?_) AllReady.nil
        go_simp
        refine hKk _ _ ?_
        clear hKk Kk
        refine wpAny_ready (rs := [8]) (by kernel_rfl) (by simp) ?_
        refine AllReady.cons rfl (fun Kk hKk => ?_) AllReady.nil
        refine step_append_lies _ (by rfl) _ _ _ (by rfl) w.heap.size 130 i0 _ 1 8 Tryd.underlying127 hi0 hz0 hz1' hz2' rfl (by omega) (.slice none 0 0) 0 [] (by rfl) (World.ownsRow_nil _ _ _ _) ⟨w2.heap.size, 0, none⟩ 1 1 [.pointer (some ⟨mb, 0, none⟩)] (by rfl) (by rfl) (World.news_of_block (cs := #[.pointer (some ⟨mb, 0, none⟩)]) (t := 130) (fr := (0, 0)) (heap_alloc_new w2 _)) (by intro u hu; rw [List.mem_singleton.1 hu]; rfl) (by omega) (by unfold maxLen; omega) (by omega) (by simp; omega) (w2.heap.size + 1) (by simp) ?_
        intro gg cap' w7 hown7 hgrow hat hlt7
        have HE := Lib.hid (comp_end (m := ⟨op, n, v⟩) HB2.out hz1 (by omega) x2 x2f HMT.out (by omega) hgrow hown7 hat hlt7)
        have y7 := HE.out.1
        have f7 := HE.out.2.1
        clear hown7 hgrow hat
        refine hKk _ _ ?_
        clear hKk Kk
        refine wpAny_ready (rs := [9]) (by kernel_rfl) (by simp) ?_
        refine AllReady.cons rfl (fun Kk hKk => ?_) AllReady.nil
        go_simp
        refine hKk _ _ ?_
        clear hKk Kk
        refine wpAny_ready (rs := [10]) (by kernel_rfl) (by simp) ?_
        refine AllReady.cons rfl (fun Kk hKk => ?_) AllReady.nil
        go_simp
        refine hKk _ _ ?_
        clear hKk Kk
        refine wpAny_ready (rs := [11]) (by kernel_rfl) (by simp) ?_
        refine AllReady.cons rfl (fun Kk hKk => ?_) AllReady.nil
        go_simp
        refine hKk _ _ ?_
        clear hKk Kk
        refine wpAny_done (by kernel_rfl) ?_ _
        go_wp2_with fail
        go_roundg 0
        case measure => omega
        case rel => exact .inr ⟨rfl, rfl, gg, mb, HE.out.2.2.1, HE.out.2.2.2.1, HE.out.2.2.2.2.1, HE.out.2.2.2.2.2⟩
      · skip
        go_simp
        refine hKk _ _ ?_
        clear hKk Kk
        refine wpAny_ready (rs := [4, 6]) (by kernel_rfl) (by simp) ?_
        refine AllReady.cons rfl (fun Kk hKk => ?_) (AllReady.cons rfl (fun Kk hKk => ?_) AllReady.nil)
        · skip
          go_simp
          refine hKk _ _ ?_
          clear hKk Kk
          refine wpAny_ready (rs := [6]) (by kernel_rfl) (by simp) ?_
          refine AllReady.cons rfl (fun Kk hKk => ?_) AllReady.nil
          go_simp
          refine (new_any _ op n v).mono ?_
          rintro e w2 ⟨mb, rfl, hmb, hb2, says, hmt⟩
          have HB2 := Lib.hid (HBD.out.trans (hb2.mono (by omega)))
          have HMT := Lib.hid hmt
          have hz2 := hb2.size
          have x2 := (hb2.cell (p := ⟨xb, 0, none⟩) (by show xb < WD.heap.size; omega)).trans x0
          have x2f := (hb2.frozen (p := ⟨xb, 0, none⟩) (by show xb < WD.heap.size; omega)).trans x0f
          have x3 : (w2.alloc (.cells #[.pointer (some ⟨mb, 0, none⟩)] 130)).cell? ⟨xb, 0, none⟩ = some (.slice none 0 0) := (World.cell?_alloc_past _ _ _ (by show xb < w2.heap.size; omega)).trans x2
          clear hb2 hmt
          refine hKk _ _ ?_
          clear hKk Kk
          refine wpAny_ready (rs := [7]) (by kernel_rfl) (by simp) ?_
          refine AllReady.cons rfl (fun Kk hKk => ?_) AllReady.nil
          go_simp
          refine hKk _ _ ?_
          clear hKk Kk
          refine wpAny_ready (rs := [8]) (by kernel_rfl) (by simp) ?_
          refine AllReady.cons rfl (fun Kk hKk => ?_) AllReady.nil
          refine step_append_lies _ (by rfl) _ _ _ (by rfl) w.heap.size 130 i0 _ 1 8 Tryd.underlying127 hi0 hz0 hz1' hz2' rfl (by omega) (.slice none 0 0) 0 [] (by rfl) (World.ownsRow_nil _ _ _ _) ⟨w2.heap.size, 0, none⟩ 1 1 [.pointer (some ⟨mb, 0, none⟩)] (by rfl) (by rfl) (World.news_of_block (cs := #[.pointer (some ⟨mb, 0, none⟩)]) (t := 130) (fr := (0, 0)) (heap_alloc_new w2 _)) (by intro u hu; rw [List.mem_singleton.1 hu]; rfl) (by omega) (by unfold maxLen; omega) (by omega) (by simp; omega) (w2.heap.size + 1) (by simp) ?_
          intro gg cap' w7 hown7 hgrow hat hlt7
          have HE := Lib.hid (comp_end (m := ⟨op, n, v⟩) HB2.out hz1 (by omega) x2 x2f HMT.out (by omega) hgrow hown7 hat hlt7)
          have y7 := HE.out.1
          have f7 := HE.out.2.1
          clear hown7 hgrow hat
          refine hKk _ _ ?_
          clear hKk Kk
          refine wpAny_ready (rs := [9]) (by kernel_rfl) (by simp) ?_
          refine AllReady.cons rfl (fun Kk hKk => ?_) AllReady.nil
          go_simp
          refine hKk _ _ ?_
          clear hKk Kk
          refine wpAny_ready (rs := [10]) (by kernel_rfl) (by simp) ?_
          refine AllReady.cons rfl (fun Kk hKk => ?_) AllReady.nil
          go_simp
          refine hKk _ _ ?_
          clear hKk Kk
          refine wpAny_ready (rs := [11]) (by kernel_rfl) (by simp) ?_
          refine AllReady.cons rfl (fun Kk hKk => ?_) AllReady.nil
          go_simp
          refine hKk _ _ ?_
          clear hKk Kk
          refine wpAny_done (by kernel_rfl) ?_ _
          go_wp2_with fail
          go_roundg 0
          case measure => omega
          case rel => exact .inr ⟨rfl, rfl, gg, mb, HE.out.2.2.1, HE.out.2.2.2.1, HE.out.2.2.2.2.1, HE.out.2.2.2.2.2⟩
        · skip
          go_simp
          refine (new_any _ op n v).mono ?_
          rintro e w2 ⟨mb, rfl, hmb, hb2, says, hmt⟩
          have HB2 := Lib.hid (HBD.out.trans (hb2.mono (by omega)))
          have HMT := Lib.hid hmt
          have hz2 := hb2.size
          have x2 := (hb2.cell (p := ⟨xb, 0, none⟩) (by show xb < WD.heap.size; omega)).trans x0
          have x2f := (hb2.frozen (p := ⟨xb, 0, none⟩) (by show xb < WD.heap.size; omega)).trans x0f
          have x3 : (w2.alloc (.cells #[.pointer (some ⟨mb, 0, none⟩)] 130)).cell? ⟨xb, 0, none⟩ = some (.slice none 0 0) := (World.cell?_alloc_past _ _ _ (by show xb < w2.heap.size; omega)).trans x2
          clear hb2 hmt
          refine hKk _ _ ?_
          clear hKk Kk
          refine wpAny_ready (rs := [4, 7]) (by kernel_rfl) (by simp) ?_
          refine AllReady.cons rfl (fun Kk hKk => ?_) (AllReady.cons rfl (fun Kk hKk => ?_) AllReady.nil)
          · skip
            go_simp
            refine hKk _ _ ?_
            clear hKk Kk
            refine wpAny_ready (rs := [7]) (by kernel_rfl) (by simp) ?_
            refine AllReady.cons rfl (fun Kk hKk => ?_) AllReady.nil
            go_simp
            refine hKk _ _ ?_
            clear hKk Kk
            refine wpAny_ready (rs := [8]) (by kernel_rfl) (by simp) ?_
            refine AllReady.cons rfl (fun Kk hKk => ?_) AllReady.nil
            refine step_append_lies _ (by rfl) _ _ _ (by rfl) w.heap.size 130 i0 _ 1 8 Tryd.underlying127 hi0 hz0 hz1' hz2' rfl (by omega) (.slice none 0 0) 0 [] (by rfl) (World.ownsRow_nil _ _ _ _) ⟨w2.heap.size, 0, none⟩ 1 1 [.pointer (some ⟨mb, 0, none⟩)] (by rfl) (by rfl) (World.news_of_block (cs := #[.pointer (some ⟨mb, 0, none⟩)]) (t := 130) (fr := (0, 0)) (heap_alloc_new w2 _)) (by intro u hu; rw [List.mem_singleton.1 hu]; rfl) (by omega) (by unfold maxLen; omega) (by omega) (by simp; omega) (w2.heap.size + 1) (by simp) ?_
            intro gg cap' w7 hown7 hgrow hat hlt7
            have HE := Lib.hid (comp_end (m := ⟨op, n, v⟩) HB2.out hz1 (by omega) x2 x2f HMT.out (by omega) hgrow hown7 hat hlt7)
            have y7 := HE.out.1
            have f7 := HE.out.2.1
            clear hown7 hgrow hat
            refine hKk _ _ ?_
            clear hKk Kk
            refine wpAny_ready (rs := [9]) (by kernel_rfl) (by simp) ?_
            refine AllReady.cons rfl (fun Kk hKk => ?_) AllReady.nil
            go_simp
            refine hKk _ _ ?_
            clear hKk Kk
            refine wpAny_ready (rs := [10]) (by kernel_rfl) (by simp) ?_
            refine AllReady.cons rfl (fun Kk hKk => ?_) AllReady.nil
            go_simp
            refine hKk _ _ ?_
            clear hKk Kk
            refine wpAny_ready (rs := [11]) (by kernel_rfl) (by simp) ?_
            refine AllReady.cons rfl (fun Kk hKk => ?_) AllReady.nil
            go_simp
            refine hKk _ _ ?_
            clear hKk Kk
            refine wpAny_done (by kernel_rfl) ?_ _
            go_wp2_with fail
            go_roundg 0
            case measure => omega
            case rel => exact .inr ⟨rfl, rfl, gg, mb, HE.out.2.2.1, HE.out.2.2.2.1, HE.out.2.2.2.2.1, HE.out.2.2.2.2.2⟩
          · skip
            go_simp
            refine hKk _ _ ?_
            clear hKk Kk
            refine wpAny_ready (rs := [4]) (by kernel_rfl) (by simp) ?_
            refine AllReady.cons rfl (fun Kk hKk => ?_) AllReady.nil
            go_simp
            refine hKk _ _ ?_
            clear hKk Kk
            refine wpAny_ready (rs := [8]) (by kernel_rfl) (by simp) ?_
            refine AllReady.cons rfl (fun Kk hKk => ?_) AllReady.nil
            refine step_append_lies _ (by rfl) _ _ _ (by rfl) w.heap.size 130 i0 _ 1 8 Tryd.underlying127 hi0 hz0 hz1' hz2' rfl (by omega) (.slice none 0 0) 0 [] (by rfl) (World.ownsRow_nil _ _ _ _) ⟨w2.heap.size, 0, none⟩ 1 1 [.pointer (some ⟨mb, 0, none⟩)] (by rfl) (by rfl) (World.news_of_block (cs := #[.pointer (some ⟨mb, 0, none⟩)]) (t := 130) (fr := (0, 0)) (heap_alloc_new w2 _)) (by intro u hu; rw [List.mem_singleton.1 hu]; rfl) (by omega) (by unfold maxLen; omega) (by omega) (by simp; omega) (w2.heap.size + 1) (by simp) ?_
            intro gg cap' w7 hown7 hgrow hat hlt7
            have HE := Lib.hid (comp_end (m := ⟨op, n, v⟩) HB2.out hz1 (by omega) x2 x2f HMT.out (by omega) hgrow hown7 hat hlt7)
            have y7 := HE.out.1
            have f7 := HE.out.2.1
            clear hown7 hgrow hat
            refine hKk _ _ ?_
            clear hKk Kk
            refine wpAny_ready (rs := [9]) (by kernel_rfl) (by simp) ?_
            refine AllReady.cons rfl (fun Kk hKk => ?_) AllReady.nil
            go_simp
            refine hKk _ _ ?_
            clear hKk Kk
            refine wpAny_ready (rs := [10]) (by kernel_rfl) (by simp) ?_
            refine AllReady.cons rfl (fun Kk hKk => ?_) AllReady.nil
            go_simp
            refine hKk _ _ ?_
            clear hKk Kk
            refine wpAny_ready (rs := [11]) (by kernel_rfl) (by simp) ?_
            refine AllReady.cons rfl (fun Kk hKk => ?_) AllReady.nil
            go_simp
            refine hKk _ _ ?_
            clear hKk Kk
            refine wpAny_done (by kernel_rfl) ?_ _
            go_wp2_with fail
            go_roundg 0
            case measure => omega
            case rel => exact .inr ⟨rfl, rfl, gg, mb, HE.out.2.2.1, HE.out.2.2.2.1, HE.out.2.2.2.2.1, HE.out.2.2.2.2.2⟩
    · obtain ⟨gb, mb, hb, hL, h3, h4, h5⟩ := hfin
      have HF := Lib.hid h5
      clear h5
      have HB := Lib.hid hb
      have HL2 := Lib.hid hL
      clear hb hL
      go_wp2_with fail
      go_ret3
      exact ⟨xb, gb, mb, rfl, HB.out, HL2.out, by omega, h3, h4, HF.out⟩

end Go.Proofs.YtjojhlkbcjhonaaDoor.Ih
