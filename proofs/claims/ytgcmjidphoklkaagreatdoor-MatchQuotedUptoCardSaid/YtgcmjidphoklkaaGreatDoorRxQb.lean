/- Walks over the Builder's own methods, as this program has them. -/
import Derived.Test.YtgcmjidphoklkaaGreatDoorRxWi
import Derived.Test.YtgcmjidphoklkaaGreatDoorShelf
import Derived.Shelf.Strings.BuilderRune
import Derived.Deep.AppendLies
namespace Go.Proofs.YtgcmjidphoklkaaGreatDoor.Rx
open Go.RowKit Go.Sort

theorem infoBuilder : (Tryz.prog.info? 35).map (fun i => i.size) = some 2 := by kernel_rfl
theorem infoByte : (Tryz.prog.info? 5).map (fun i => (i.zero, i.size, i.bytes)) = some (some (.int .u8 0), 1, 1) := by kernel_rfl

theorem to_unsafe {w : World} {b : Nat} (hsh : w.shape? b = some (35, 2)) : Sem.run Tryz.prog (convert 32 84 (.pointer (some ⟨b, 0, none⟩))) w = .ok (.pointer (some ⟨b, 0, none⟩)) w := by
  obtain ⟨j, hj, hs⟩ := Option.map_eq_some_iff.1 infoBuilder
  exact Lib.run_to_unsafe (w := w) (⟨b, 0, none⟩ : Addr) Tryz.underlying32 Tryz.underlying84 hj (by omega) hsh (Nat.zero_lt_succ 1)

theorem from_unsafe {w : World} {b : Nat} (hsh : w.shape? b = some (35, 2)) : Sem.run Tryz.prog (convert 84 32 (.pointer (some ⟨b, 0, none⟩))) w = .ok (.pointer (some ⟨b, 0, none⟩)) w := by
  obtain ⟨j, hj, hs⟩ := Option.map_eq_some_iff.1 infoBuilder
  exact Lib.run_from_unsafe (w := w) (⟨b, 0, none⟩ : Addr) Tryz.underlying84 Tryz.underlying32 hj hsh (by kernel_rfl)

theorem escape_same (v : Value) (w : World) : Sem.run Tryz.prog (callFunc 34 #[v]) w = .ok (.value v) w := by
  rw [run_callFunc_extern Tryz.func34 (by kernel_rfl) (by kernel_rfl) (by kernel_rfl) (e := Extern.AbiNoEscape.same) (by kernel_rfl), Lib.run_noEscape]
  rfl

theorem same_ptr (b : Nat) (w : World) : Sem.run Tryz.prog (binOp BinOp.neq 32 (.pointer (some ⟨b, 0, none⟩)) (.pointer (some ⟨b, 0, none⟩))) w = .ok (.bool false) w := by
  obtain ⟨j, hj, hs⟩ := Option.map_eq_some_iff.1 infoBuilder
  exact Lib.run_neq_ptr_same w _ Tryz.underlying32 hj

abbrev BuiltAt (B b : Nat) (bs : List Value) (w : World) : Prop := Lib.BuilderAtF 35 5 B b (.pointer (some ⟨b, 0, none⟩)) bs w
abbrev Built (B b : Nat) (bs : List Value) (w : World) : Prop := Lib.IsBuilderF 35 5 B b bs w
abbrev Others (b : Nat) (w w' : World) : Prop := Lib.OthersKept 5 (some b) w w'

set_option maxRecDepth 100000 in
theorem copy_any (w : World) (B b : Nat) (bs : List Value) (h : Built B b bs w) :
    Calls Tryz.prog 21 #[.pointer (some ⟨b, 0, none⟩)] w (fun e w' => e = .returned (.tuple #[]) ∧ BuiltAt B b bs w' ∧ Below B w w' ∧ Others b w w') := by
  rcases h with h | h
  · have H1 := Lib.hid (h.used (.pointer (some ⟨b, 0, none⟩)))
    have H2 := Lib.hid h.1
    have h0 := h.cell0
    have hz := h.frozen0
    have c1 := to_unsafe h.shape
    have c2 := from_unsafe h.shape
    have c3 := escape_same (.pointer (some ⟨b, 0, none⟩)) w
    clear h
    go_enter Tryz.func21, Tryz.ntmps21
    go_wp2_with fail
    go_end0
    exact ⟨rfl, H1.out, (Below.refl B w).setCell (p := ⟨b, 0, none⟩) H2.out _, (Lib.OthersKept.refl _ _ w).setCell ⟨b, 0, none⟩ rfl _⟩
  · have h0 := h.cell0
    have H := Lib.hid h
    have c1 := same_ptr b w
    clear h
    go_enter Tryz.func21, Tryz.ntmps21
    go_wp2_with fail
    go_end0
    exact ⟨rfl, H.out, Below.refl B _, Lib.OthersKept.refl _ _ _⟩

theorem built_old {w1 w2 : World} {b : Nat} {v p : Value} {o : Obj} (hbk : w1.heap[b]? = some (.cells #[p, v] 35 (0, 0))) (hne : v.ownBlock ≠ some b) (hgrow : (w1.alloc o).grownBy w2 v.ownBlock) : b < w1.heap.size ∧ w2.heap[b]? = some (.cells #[p, v] 35 (0, 0)) := by
  have hlt : b < w1.heap.size := (Array.getElem?_eq_some_iff.1 hbk).1
  exact ⟨hlt, by rw [hgrow.block b (by simp; omega) (fun e => hne e.symm), Lib.alloc_old w1 _ b hlt]; exact hbk⟩

set_option maxHeartbeats 1000000 in
theorem writeByte_any (w : World) (B b : Nat) (bs : List Value) (c : Int) (h : Built B b bs w) (hlen : bs.length + 1 ≤ 140737488355328) (hBw : B ≤ w.heap.size) :
    Calls Tryz.prog 11 #[.pointer (some ⟨b, 0, none⟩), .int .u8 c] w (fun e w' => e = .returned .nilIface ∧ Built B b (bs ++ [.int .u8 c]) w' ∧ Below B w w' ∧ Others b w w') := by
  obtain ⟨i0, hi0, hz0, hz1, hz2⟩ := info_parts infoByte
  have HH := Lib.hid h
  clear h
  go_enter Tryz.func11, Tryz.ntmps11
  go_wp2_with fail
  refine (copy_any w B b bs HH.out).mono ?_
  rintro e w1 ⟨rfl, h1, hb1, hk1⟩
  obtain ⟨hB, v, hbk, hown, hne⟩ := h1
  have c1 : w1.cell? ⟨b, 1, none⟩ = some v := by rw [Lib.cell_of_heap hbk]; rfl
  have HK := Lib.hid hbk
  have HO := Lib.hid hown
  have HN := Lib.hid hne
  have HB1 := Lib.hid hb1
  have HK1 := Lib.hid hk1
  have hs1 := hb1.size
  clear hbk hown hne hb1 hk1
  have hnews : ∀ (j : Nat) (u : Value), [Value.int .u8 c][j]? = some u → (w1.alloc (.cells #[.int .u8 c] 5)).cell? ((⟨w1.heap.size, 0, none⟩ : Addr).add j) = some u := World.news_of_block (cs := #[.int .u8 c]) (t := 5) (fr := (0, 0)) (heap_alloc_new w1 _)
  have HNEWS := Lib.hid hnews
  clear hnews
  go_wp2_with (at_builtin; refine wpList_append_ownF _ rfl _ _ 33 rfl B 5 i0 (.int .u8 0) 1 1 Tryz.underlying33 hi0 hz0 hz1 hz2 rfl (by decide) v bs.length bs rfl (HO.out.alloc _) ⟨w1.heap.size, 0, none⟩ 1 1 [.int .u8 c] rfl rfl HNEWS.out (by intro u hu; rw [List.mem_singleton.1 hu]; rfl) (by unfold maxLen; omega) (by omega) (by simp; omega) ?_)
  intro v' w2 hown' hgrow _
  obtain ⟨hlt, hb2⟩ := built_old HK.out HN.out hgrow
  have d1 : w2.cell? ⟨b, 1, none⟩ = some v := by rw [Lib.cell_of_heap hb2]; rfl
  have f1 : w2.frozen? ⟨b, 1, none⟩ = false := Lib.frozen_of_heap hb2 1
  obtain ⟨g, cap, rfl⟩ : ∃ g cap, v' = .slice (some ⟨g, 0, none⟩) (bs.length + 1) cap := by
    rcases hown'.2 with ⟨_, h0⟩ | ⟨g, cap, cur, fz, hv, _⟩
    · omega
    · exact ⟨g, cap, hv⟩
  have HO2 := Lib.hid hown'
  have HG := Lib.hid hgrow
  have HB2 := Lib.hid hb2
  clear hown' hgrow hb2
  go_wp2_with fail
  go_ret
  refine ⟨rfl, .inr ?_, ?_, ((HK1.out.alloc _).grown HG.out (Lib.ownsRowF_kind (HO.out.alloc _))).setCell ⟨b, 1, none⟩ rfl _⟩
  · exact Lib.BuilderAtF.put (T := 35) (e := 5) hB HB2.out (bs' := bs ++ [.int .u8 c]) (by simpa using HO2.out) (by decide)
  · exact ((HB1.out.alloc (by omega) _).grown HG.out (by simp; omega) (fun k hk => (HO.out.lt k hk).1)).setCell (p := ⟨b, 1, none⟩) hB _

set_option maxHeartbeats 1000000 in
theorem writeString_any (w : World) (B b : Nat) (bs : List Value) (s : ByteArray) (h : Built B b bs w) (hlen : bs.length + s.size ≤ 140737488355328) (hBw : B ≤ w.heap.size) :
    Calls Tryz.prog 9 #[.pointer (some ⟨b, 0, none⟩), .string s] w (fun e w' => e = .returned (.tuple #[.int .i64 s.size, .nilIface]) ∧ Built B b (bs ++ Lib.strCells s) w' ∧ Below B w w' ∧ Others b w w') := by
  obtain ⟨i0, hi0, hz0, hz1, hz2⟩ := info_parts infoByte
  have HH := Lib.hid h
  clear h
  go_enter Tryz.func9, Tryz.ntmps9
  go_wp2_with fail
  refine (copy_any w B b bs HH.out).mono ?_
  rintro e w1 ⟨rfl, h1, hb1, hk1⟩
  obtain ⟨hB, v, hbk, hown, hne⟩ := h1
  have c1 : w1.cell? ⟨b, 1, none⟩ = some v := by rw [Lib.cell_of_heap hbk]; rfl
  have HK := Lib.hid hbk
  have HO := Lib.hid hown
  have HN := Lib.hid hne
  have HB1 := Lib.hid hb1
  have HK1 := Lib.hid hk1
  have hs1 := hb1.size
  clear hbk hown hne hb1 hk1
  go_wp2_with (at_builtin; refine Lib.wpList_append_own_stringF _ rfl _ _ 33 9 rfl B 5 i0 Tryz.underlying33 Tryz.underlying9 hi0 hz0 hz1 hz2 v bs.length bs rfl HO.out s rfl (by unfold maxLen; omega) (by omega) (by omega) ?_)
  intro v' w2 hown' hgrow _
  have hlt : b < w1.heap.size := (Array.getElem?_eq_some_iff.1 HK.out).1
  have hb2 : w2.heap[b]? = some (.cells #[.pointer (some ⟨b, 0, none⟩), v] 35 (0, 0)) := (hgrow.block b hlt (fun e => HN.out e.symm)).trans HK.out
  have d1 : w2.cell? ⟨b, 1, none⟩ = some v := by rw [Lib.cell_of_heap hb2]; rfl
  have f1 : w2.frozen? ⟨b, 1, none⟩ = false := Lib.frozen_of_heap hb2 1
  obtain ⟨ao, n', cap, rfl⟩ : ∃ ao n' cap, v' = .slice ao n' cap := by
    rcases hown'.2 with ⟨hv, _⟩ | ⟨g, cap, cur, fz, hv, _⟩
    · exact ⟨_, _, _, hv⟩
    · exact ⟨_, _, _, hv⟩
  have HO2 := Lib.hid hown'
  have HG := Lib.hid hgrow
  have HB2 := Lib.hid hb2
  clear hown' hgrow hb2
  go_wp2_with fail
  go_ret2
  refine ⟨rfl, .inr ?_, ?_, (HK1.out.grown HG.out (Lib.ownsRowF_kind HO.out)).setCell ⟨b, 1, none⟩ rfl _⟩
  · exact Lib.BuilderAtF.put (T := 35) (e := 5) hB HB2.out (bs' := bs ++ Lib.strCells s) (by simpa [Lib.strCells_length] using HO2.out) (by decide)
  · exact (HB1.out.grown HG.out (by omega) (fun k hk => (HO.out.lt k hk).1)).setCell (p := ⟨b, 1, none⟩) hB _

set_option maxHeartbeats 1000000 in
theorem writeRune_any (w : World) (B b : Nat) (bs : List Value) (r : Int) (hr0 : -2147483648 ≤ r) (hr1 : r ≤ 2147483647) (h : Built B b bs w) (hlen : bs.length + 4 ≤ 140737488355328) (hBw : B ≤ w.heap.size) :
    Calls Tryz.prog 12 #[.pointer (some ⟨b, 0, none⟩), .int .i32 r] w (fun e w' => (∃ n, e = .returned (.tuple #[.int .i64 n, .nilIface])) ∧ Built B b (bs ++ Lib.runeCells r) w' ∧ Below B w w' ∧ Others b w w') := by
  have hk4 := Lib.runeCells_le r
  have HH := Lib.hid h
  clear h
  go_enter Tryz.func12, Tryz.ntmps12
  go_wp2_with fail
  refine (copy_any w B b bs HH.out).mono ?_
  rintro e w1 ⟨rfl, h1, hb1, hk1⟩
  obtain ⟨hB, v, hbk, hown, hne⟩ := h1
  obtain ⟨ao, cap, rfl⟩ : ∃ ao cap, v = .slice ao bs.length cap := by
    rcases hown.2 with ⟨hv, h0⟩ | ⟨g, cap, cur, fz, hv, _⟩
    · exact ⟨none, 0, by rw [hv, h0]⟩
    · exact ⟨_, _, hv⟩
  have c1 : w1.cell? ⟨b, 1, none⟩ = some (.slice ao bs.length cap) := by rw [Lib.cell_of_heap hbk]; rfl
  have HK := Lib.hid hbk
  have HO := Lib.hid hown
  have HN := Lib.hid hne
  have HB1 := Lib.hid hb1
  have HK1 := Lib.hid hk1
  have hs1 := hb1.size
  clear hbk hown hne hb1 hk1
  go_wp2_with fail
  refine (Tryz.utf8_AppendRune_row B _ bs.length bs r hr0 hr1 w1 HO.out hlen (by omega)).mono ?_
  rintro e w2 ⟨v', rfl, hown', o, hgrow⟩
  obtain ⟨hlt, hb2⟩ := built_old HK.out HN.out hgrow
  have d1 : w2.cell? ⟨b, 1, none⟩ = some (.slice ao bs.length cap) := by rw [Lib.cell_of_heap hb2]; rfl
  have f1 : w2.frozen? ⟨b, 1, none⟩ = false := Lib.frozen_of_heap hb2 1
  obtain ⟨g, cap', rfl⟩ : ∃ g cap', v' = .slice (some ⟨g, 0, none⟩) (bs.length + (Lib.runeCells r).length) cap' := by
    rcases hown'.2 with ⟨_, h0⟩ | ⟨g, cap', cur, fz, hv, _⟩
    · omega
    · exact ⟨g, cap', hv⟩
  have HO2 := Lib.hid hown'
  have HG := Lib.hid hgrow
  have HB2 := Lib.hid hb2
  clear hown' hgrow hb2
  go_wp2_with fail
  go_ret2
  refine ⟨⟨_, rfl⟩, .inr ?_, ?_, ((HK1.out.alloc _).grown HG.out (Lib.ownsRowF_kind (HO.out.alloc _))).setCell ⟨b, 1, none⟩ rfl _⟩
  · exact Lib.BuilderAtF.put (T := 35) (e := 5) hB HB2.out (bs' := bs ++ Lib.runeCells r) (by simpa using HO2.out) (by decide)
  · exact ((HB1.out.alloc (by omega) _).grown HG.out (by simp; omega) (fun k hk => (HO.out.lt k hk).1)).setCell (p := ⟨b, 1, none⟩) hB _

end Go.Proofs.YtgcmjidphoklkaaGreatDoor.Rx
