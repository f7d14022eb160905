/- The graph in memory: a node more. -/
import Derived.Test.YtgcmjidphoklkaaGreatDoorRxCt
import Derived.Test.YtgcmjidphoklkaaGreatDoorRxWm
namespace Go.Proofs.YtgcmjidphoklkaaGreatDoor.Rx
open Go.RowKit Go.Sort

attribute [local go_sem] run_store_one

/-- A node's cells. -/
structure NdM where
  is : Value
  a : Int
  b : Int

abbrev NdM.list (n : NdM) : List Value := [n.is, .int .i64 n.a, .int .i64 n.b]
def flatN : List NdM → List Value
  | [] => []
  | n :: l => n.list ++ flatN l

theorem flatN_append : ∀ l m : List NdM, flatN (l ++ m) = flatN l ++ flatN m
  | [], _ => rfl
  | n :: l, m => by simp [flatN, flatN_append l m]

theorem infoNode : (Tryz.prog.info? 109).map (fun i => (i.zero, i.size, i.bytes)) = some (some (.agg #[.nilFunc, .int .i64 0, .int .i64 0]), 3, 24) := by kernel_rfl

/-- The nodes of the graph that is being built at rb. -/
structure Gr (rb : Nat) (v : Value) (ns : List NdM) (w : World) : Prop where
  cell : w.cell? ⟨rb, 10, none⟩ = some v
  free : w.frozen? ⟨rb, 10, none⟩ = false
  own : w.ownsRow (rb - 1) 109 3 v ns.length (flatN ns)
  ne : v.ownBlock ≠ some rb

/-- Below the graph nothing has changed, and at rb just the nodes' slice; above it nothing but the nodes' own block. -/
structure GMoved (rb : Nat) (v v' : Value) (w w' : World) : Prop where
  below : Below (rb - 1) w w'
  self : w'.heap[rb]? = (w.setCell ⟨rb, 10, none⟩ v').heap[rb]?
  keep : ∀ k, k < w.heap.size → k ≠ rb → v.ownBlock ≠ some k → w'.heap[k]? = w.heap[k]?
  own : v'.ownBlock = v.ownBlock ∨ ∃ g, v'.ownBlock = some g ∧ w.heap.size ≤ g

theorem setCell_grown (w : World) (a : Addr) (u : Value) : w.grownBy (w.setCell a u) (some a.block) :=
  ⟨rfl, rfl, rfl, by simp, fun k _ hk => setCell_block_ne _ _ _ _ (fun e => hk (by rw [e]))⟩

theorem setCell_self_block {w w' : World} {rb : Nat} (h : w'.heap[rb]? = w.heap[rb]?) (o : Nat) (v : Value) : (w'.setCell ⟨rb, o, none⟩ v).heap[rb]? = (w.setCell ⟨rb, o, none⟩ v).heap[rb]? := by
  simp only [World.setCell, Array.getElem?_modify, h]

theorem put_end {w W w7 : World} {rb N cap gg cap' : Nat} {ao : Option Addr} {o : Obj} {xs ys : List Value} (hBW : Below w.heap.size w W) (hsz : W.heap.size = w.heap.size + 1) (hrb : rb < w.heap.size)
    (hown : W.ownsRow (rb - 1) 109 3 (.slice ao N cap) N xs) (hne : (Value.slice ao N cap).ownBlock ≠ some rb) (hc : W.cell? ⟨rb, 10, none⟩ = some (.slice ao N cap)) (hf : W.frozen? ⟨rb, 10, none⟩ = false)
    (hown7 : w7.ownsRow (rb - 1) 109 3 (.slice (some ⟨gg, 0, none⟩) (N + 1) cap') (N + 1) ys) (hgrow : (W.alloc o).grownBy w7 (Value.slice ao N cap).ownBlock) (hat : (Value.slice ao N cap).ownBlock = some gg ∨ gg = W.heap.size + 1) :
    w7.cell? ⟨rb, 10, none⟩ = some (.slice ao N cap) ∧ w7.frozen? ⟨rb, 10, none⟩ = false ∧
      (w7.setCell ⟨rb, 10, none⟩ (.slice (some ⟨gg, 0, none⟩) (N + 1) cap')).cell? ⟨rb, 10, none⟩ = some (.slice (some ⟨gg, 0, none⟩) (N + 1) cap') ∧
      (w7.setCell ⟨rb, 10, none⟩ (.slice (some ⟨gg, 0, none⟩) (N + 1) cap')).frozen? ⟨rb, 10, none⟩ = false ∧
      (w7.setCell ⟨rb, 10, none⟩ (.slice (some ⟨gg, 0, none⟩) (N + 1) cap')).ownsRow (rb - 1) 109 3 (.slice (some ⟨gg, 0, none⟩) (N + 1) cap') (N + 1) ys ∧ gg ≠ rb ∧
      GMoved rb (.slice ao N cap) (.slice (some ⟨gg, 0, none⟩) (N + 1) cap') w (w7.setCell ⟨rb, 10, none⟩ (.slice (some ⟨gg, 0, none⟩) (N + 1) cap')) := by
  have hA : Below W.heap.size W (W.alloc o) := (Below.refl _ _).alloc (Nat.le_refl _) _
  have hlo : ∀ k, (Value.slice ao N cap).ownBlock = some k → rb - 1 ≤ k := fun k hk => (hown.lt k hk).1
  have e7 : w7.heap[rb]? = W.heap[rb]? := by
    rw [hgrow.block rb (by simp; omega) (fun e => hne e.symm)]
    exact hA.block rb (by omega)
  have hgg : gg ≠ rb := by
    rcases hat with h | h
    · intro e; subst e; exact hne h
    · omega
  have c7 := (World.cell?_of_block (w := W) (w' := w7) (a := ⟨rb, 10, none⟩) e7).trans hc
  have f7 := (World.frozen?_of_block (w := W) (w' := w7) (a := ⟨rb, 10, none⟩) e7).trans hf
  have ho : (w7.setCell ⟨rb, 10, none⟩ (.slice (some ⟨gg, 0, none⟩) (N + 1) cap')).ownsRow (rb - 1) 109 3 (.slice (some ⟨gg, 0, none⟩) (N + 1) cap') (N + 1) ys :=
    hown7.kept (setCell_grown _ _ _) (.inr fun e => hgg (by injection e))
  refine ⟨c7, f7, cell?_setCell_at c7, by rw [World.frozen?_setCell]; exact f7, ho, hgg, ?_⟩
  have hB7 : Below (rb - 1) w w7 := ((hBW.mono (by omega)).trans (hA.mono (by omega))).grown hgrow (by simp; omega) hlo
  refine ⟨hB7.setCell (p := ⟨rb, 10, none⟩) (by simp) _, setCell_self_block (e7.trans (hBW.block rb hrb)) 10 _, fun k hk hne ho => ?_, ?_⟩
  · rw [setCell_block_ne _ _ _ _ hne, hgrow.block k (by simp; omega) (fun e => ho e.symm), hA.block k (by omega), hBW.block k hk]
  · rcases hat with h | h
    · exact .inl (by rw [h]; rfl)
    · exact .inr ⟨gg, rfl, by omega⟩

theorem put_any (w : World) (rb : Nat) (v : Value) (ns : List NdM) (n : NdM) (h : Gr rb v ns w) (hn : n.is.oneCell' = true) (hl : ns.length ≤ 1000000) (hrb : rb < w.heap.size) :
    Calls Tryz.prog 58 #[.pointer (some ⟨rb, 0, none⟩), .agg n.list.toArray] w fun e w' => e = .returned (.int .i64 ns.length) ∧ ∃ v', Gr rb v' (ns ++ [n]) w' ∧ GMoved rb v v' w w' := by
  obtain ⟨h1, h2, h3, h4⟩ := h
  have HO := Lib.hid h3
  have HNE := Lib.hid h4
  clear h4
  obtain ⟨ni, na, nb⟩ := n
  simp only at hn
  have hvs : ∃ ao cap, v = .slice ao ns.length cap := by
    rcases h3.2 with ⟨hv, h0⟩ | ⟨g, cap, cur, hv, _⟩
    · exact ⟨none, 0, by rw [hv, h0]⟩
    · exact ⟨_, _, hv⟩
  obtain ⟨ao, cap, rfl⟩ := hvs
  clear h3
  generalize hN : ns.length = N at *
  have HN := Lib.hid hN
  clear hN
  have hc3 : N + 1 ≤ maxLen := by unfold maxLen; omega
  obtain ⟨i0, hi0, hz0, hz1, hz2⟩ := info_parts infoNode
  have hone : ∀ u ∈ NdM.list ⟨ni, na, nb⟩, u.oneCell' = true := by
    intro u hu
    simp only [NdM.list, List.mem_cons, List.not_mem_nil, or_false] at hu
    rcases hu with rfl | rfl | rfl
    · exact hn
    · rfl
    · rfl
  go_enter Tryz.func58, Tryz.ntmps58
  go_wp2_with fail
  refine wp_region_any (by kernel_rfl) ?_
  change wpAny _ _ _ _ _ _ _ (World.drew _)
  have hW : Hid (∀ W, W = (w.alloc (Obj.cells (NdM.list ⟨ni, na, nb⟩).toArray 109)).drew → W.cell? ⟨rb, 10, none⟩ = some (.slice ao N cap) ∧ W.frozen? ⟨rb, 10, none⟩ = false ∧ W.ownsRow (rb - 1) 109 3 (.slice ao N cap) N (flatN ns) ∧ W.heap.size = w.heap.size + 1 ∧ Below w.heap.size w W ∧
      W.cell? ⟨w.heap.size, 0, none⟩ = some ni ∧ W.cell? ⟨w.heap.size, 1, none⟩ = some (.int .i64 na) ∧ W.cell? ⟨w.heap.size, 2, none⟩ = some (.int .i64 nb)) := by
    rintro W rfl
    have hA : Below w.heap.size w (w.alloc (Obj.cells (NdM.list ⟨ni, na, nb⟩).toArray 109)).drew := ((Below.refl _ _).alloc (Nat.le_refl _) _).drew
    refine ⟨(hA.cell (p := ⟨rb, 10, none⟩) hrb).trans h1, (hA.frozen (p := ⟨rb, 10, none⟩) hrb).trans h2, (HO.out.alloc _).drew, by simp, hA, ?_, ?_, ?_⟩ <;> simp [go_sem]
  generalize hWe : (w.alloc (Obj.cells (NdM.list ⟨ni, na, nb⟩).toArray 109)).drew = W
  obtain ⟨y4, yf, yown, ysz, hBW, q0, q1, q2⟩ := hW.out W hWe.symm
  have HYO := Lib.hid yown
  have HBW := Lib.hid hBW
  have HYS := Lib.hid ysz
  clear hW hWe h1 h2 HO yown hBW ysz
  refine wpAny_take (i := 0) (v := .pointer (some ⟨rb, 0, none⟩)) rfl (by kernel_rfl) (by kernel_rfl) (by kernel_rfl) (fun _ _ _ h => h) (Or.inl ⟨by rfl, by intro w; go_simp⟩) ?_
  refine wpAny_take (i := 1) (v := .pointer (some ⟨rb, 0, none⟩)) rfl (by kernel_rfl) (by kernel_rfl) (by kernel_rfl) (fun _ _ _ h => h) (Or.inl ⟨by rfl, by intro w; go_simp⟩) ?_
  refine wpAny_take (i := 2) (v := .pointer (some ⟨rb, 0, none⟩)) rfl (by kernel_rfl) (by kernel_rfl) (by kernel_rfl) (fun _ _ _ h => h) (Or.inl ⟨by rfl, by intro w; go_simp⟩) ?_
  refine wpAny_take (i := 3) (v := .pointer (some ⟨rb, 10, none⟩)) rfl (by kernel_rfl) (by kernel_rfl) (by kernel_rfl) (fun _ _ _ h => h) (Or.inl ⟨by rfl, by intro w; go_simp⟩) ?_
  refine wpAny_ready (rs := [4, 5]) (by kernel_rfl) (by simp) ?_
  refine AllReady.cons rfl (fun Kk hKk => ?_) ?_
  · skip
    go_simp
    refine hKk _ _ ?_
    clear hKk Kk
    refine wpAny_ready (rs := [5]) (by kernel_rfl) (by simp) ?_
    refine AllReady.cons rfl (fun Kk hKk => ?_) ?_
    · skip
      go_simp
      refine hKk _ _ ?_
      clear hKk Kk
      refine wpAny_ready (rs := [6]) (by kernel_rfl) (by simp) ?_
      refine AllReady.cons rfl (fun Kk hKk => ?_) ?_
      · skip
        go_simp
        refine hKk _ _ ?_
        clear hKk Kk
        refine wpAny_ready (rs := [7]) (by kernel_rfl) (by simp) ?_
        refine AllReady.cons rfl (fun Kk hKk => ?_) ?_
        · skip
          refine step_append_lies _ (by rfl) _ _ _ (by rfl) (rb - 1) 109 i0 _ 3 24 Tryz.underlying99 hi0 hz0 hz1 hz2 rfl (by omega) _ N (flatN ns) (by rfl) (HYO.out.alloc _) ⟨W.heap.size, 0, none⟩ 1 1 (NdM.list ⟨ni, na, nb⟩) (by rfl) (by rfl) (World.news_of_block (cs := (NdM.list ⟨ni, na, nb⟩).toArray) (t := 109) (fr := (0, 0)) (heap_alloc_new W _)) hone (by omega) hc3 (by omega) (by have := HYS.out; simp; omega) (W.heap.size + 1) (by simp) ?_
          intro gg cap' w7 hown7 hgrow hat hlt7
          have HE := Lib.hid (put_end HBW.out HYS.out hrb HYO.out HNE.out y4 yf hown7 hgrow hat)
          have y7 := HE.out.1
          have f7 := HE.out.2.1
          clear hown7 hgrow hat
          refine hKk _ _ ?_
          clear hKk Kk
          refine wpAny_ready (rs := [8]) (by kernel_rfl) (by simp) ?_
          refine AllReady.cons rfl (fun Kk hKk => ?_) ?_
          · skip
            go_simp
            refine hKk _ _ ?_
            clear hKk Kk
            refine wpAny_ready (rs := [9]) (by kernel_rfl) (by simp) ?_
            refine AllReady.cons rfl (fun Kk hKk => ?_) ?_
            · skip
              go_simp
              refine hKk _ _ ?_
              clear hKk Kk
              refine wpAny_ready (rs := [10]) (by kernel_rfl) (by simp) ?_
              refine AllReady.cons rfl (fun Kk hKk => ?_) ?_
              · skip
                go_simp
                refine hKk _ _ ?_
                clear hKk Kk
                refine wpAny_done (by kernel_rfl) ?_ _
                go_wp2_with fail
                go_ret
                exact ⟨rfl, _, ⟨HE.out.2.2.1, HE.out.2.2.2.1, (by rw [List.length_append, HN.out, flatN_append]; simpa [flatN] using HE.out.2.2.2.2.1), fun e => HE.out.2.2.2.2.2.1 (by injection e)⟩, HE.out.2.2.2.2.2.2⟩
              · exact AllReady.nil
            · exact AllReady.nil
          · exact AllReady.nil
        · exact AllReady.nil
      · exact AllReady.nil
    · exact AllReady.nil
  · skip
    refine AllReady.cons rfl (fun Kk hKk => ?_) ?_
    · skip
      go_simp
      refine hKk _ _ ?_
      clear hKk Kk
      refine wpAny_ready (rs := [4, 6]) (by kernel_rfl) (by simp) ?_
      refine AllReady.cons rfl (fun Kk hKk => ?_) ?_
      · skip
        go_simp
        refine hKk _ _ ?_
        clear hKk Kk
        refine wpAny_ready (rs := [6]) (by kernel_rfl) (by simp) ?_
        refine AllReady.cons rfl (fun Kk hKk => ?_) ?_
        · skip
          go_simp
          refine hKk _ _ ?_
          clear hKk Kk
          refine wpAny_ready (rs := [7]) (by kernel_rfl) (by simp) ?_
          refine AllReady.cons rfl (fun Kk hKk => ?_) ?_
          · skip
            refine step_append_lies _ (by rfl) _ _ _ (by rfl) (rb - 1) 109 i0 _ 3 24 Tryz.underlying99 hi0 hz0 hz1 hz2 rfl (by omega) _ N (flatN ns) (by rfl) (HYO.out.alloc _) ⟨W.heap.size, 0, none⟩ 1 1 (NdM.list ⟨ni, na, nb⟩) (by rfl) (by rfl) (World.news_of_block (cs := (NdM.list ⟨ni, na, nb⟩).toArray) (t := 109) (fr := (0, 0)) (heap_alloc_new W _)) hone (by omega) hc3 (by omega) (by have := HYS.out; simp; omega) (W.heap.size + 1) (by simp) ?_
            intro gg cap' w7 hown7 hgrow hat hlt7
            have HE := Lib.hid (put_end HBW.out HYS.out hrb HYO.out HNE.out y4 yf hown7 hgrow hat)
            have y7 := HE.out.1
            have f7 := HE.out.2.1
            clear hown7 hgrow hat
            refine hKk _ _ ?_
            clear hKk Kk
            refine wpAny_ready (rs := [8]) (by kernel_rfl) (by simp) ?_
            refine AllReady.cons rfl (fun Kk hKk => ?_) ?_
            · skip
              go_simp
              refine hKk _ _ ?_
              clear hKk Kk
              refine wpAny_ready (rs := [9]) (by kernel_rfl) (by simp) ?_
              refine AllReady.cons rfl (fun Kk hKk => ?_) ?_
              · skip
                go_simp
                refine hKk _ _ ?_
                clear hKk Kk
                refine wpAny_ready (rs := [10]) (by kernel_rfl) (by simp) ?_
                refine AllReady.cons rfl (fun Kk hKk => ?_) ?_
                · skip
                  go_simp
                  refine hKk _ _ ?_
                  clear hKk Kk
                  refine wpAny_done (by kernel_rfl) ?_ _
                  go_wp2_with fail
                  go_ret
                  exact ⟨rfl, _, ⟨HE.out.2.2.1, HE.out.2.2.2.1, (by rw [List.length_append, HN.out, flatN_append]; simpa [flatN] using HE.out.2.2.2.2.1), fun e => HE.out.2.2.2.2.2.1 (by injection e)⟩, HE.out.2.2.2.2.2.2⟩
                · exact AllReady.nil
              · exact AllReady.nil
            · exact AllReady.nil
          · exact AllReady.nil
        · exact AllReady.nil
      · skip
        refine AllReady.cons rfl (fun Kk hKk => ?_) ?_
        · skip
          go_simp
          refine hKk _ _ ?_
          clear hKk Kk
          have y4' : (W.alloc (Obj.cells (NdM.list ⟨ni, na, nb⟩).toArray 109)).cell? ⟨rb, 10, none⟩ = some (.slice ao N cap) := (cell_alloc_old (by have := HYS.out; simp; omega)).trans y4
          refine wpAny_ready (rs := [4]) (by kernel_rfl) (by simp) ?_
          refine AllReady.cons rfl (fun Kk hKk => ?_) ?_
          · skip
            go_simp
            refine hKk _ _ ?_
            clear hKk Kk
            refine wpAny_ready (rs := [7]) (by kernel_rfl) (by simp) ?_
            refine AllReady.cons rfl (fun Kk hKk => ?_) ?_
            · skip
              refine step_append_lies _ (by rfl) _ _ _ (by rfl) (rb - 1) 109 i0 _ 3 24 Tryz.underlying99 hi0 hz0 hz1 hz2 rfl (by omega) _ N (flatN ns) (by rfl) (HYO.out.alloc _) ⟨W.heap.size, 0, none⟩ 1 1 (NdM.list ⟨ni, na, nb⟩) (by rfl) (by rfl) (World.news_of_block (cs := (NdM.list ⟨ni, na, nb⟩).toArray) (t := 109) (fr := (0, 0)) (heap_alloc_new W _)) hone (by omega) hc3 (by omega) (by have := HYS.out; simp; omega) (W.heap.size + 1) (by simp) ?_
              intro gg cap' w7 hown7 hgrow hat hlt7
              have HE := Lib.hid (put_end HBW.out HYS.out hrb HYO.out HNE.out y4 yf hown7 hgrow hat)
              have y7 := HE.out.1
              have f7 := HE.out.2.1
              clear hown7 hgrow hat
              refine hKk _ _ ?_
              clear hKk Kk
              refine wpAny_ready (rs := [8]) (by kernel_rfl) (by simp) ?_
              refine AllReady.cons rfl (fun Kk hKk => ?_) ?_
              · skip
                go_simp
                refine hKk _ _ ?_
                clear hKk Kk
                refine wpAny_ready (rs := [9]) (by kernel_rfl) (by simp) ?_
                refine AllReady.cons rfl (fun Kk hKk => ?_) ?_
                · skip
                  go_simp
                  refine hKk _ _ ?_
                  clear hKk Kk
                  refine wpAny_ready (rs := [10]) (by kernel_rfl) (by simp) ?_
                  refine AllReady.cons rfl (fun Kk hKk => ?_) ?_
                  · skip
                    go_simp
                    refine hKk _ _ ?_
                    clear hKk Kk
                    refine wpAny_done (by kernel_rfl) ?_ _
                    go_wp2_with fail
                    go_ret
                    exact ⟨rfl, _, ⟨HE.out.2.2.1, HE.out.2.2.2.1, (by rw [List.length_append, HN.out, flatN_append]; simpa [flatN] using HE.out.2.2.2.2.1), fun e => HE.out.2.2.2.2.2.1 (by injection e)⟩, HE.out.2.2.2.2.2.2⟩
                  · exact AllReady.nil
                · exact AllReady.nil
              · exact AllReady.nil
            · exact AllReady.nil
          · exact AllReady.nil
        · exact AllReady.nil
    · exact AllReady.nil

end Go.Proofs.YtgcmjidphoklkaaGreatDoor.Rx
