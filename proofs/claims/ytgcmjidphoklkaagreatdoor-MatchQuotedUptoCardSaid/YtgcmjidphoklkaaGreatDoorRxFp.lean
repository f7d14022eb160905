/- Walk over layer 5's front: a node, and all to which it leads without a rune. -/
import Derived.Test.YtgcmjidphoklkaaGreatDoorRxFm
namespace Go.Proofs.YtgcmjidphoklkaaGreatDoor.Rx
open Go.RowKit Go.Sort
variable {lw : Nat}

attribute [local go_sem] run_store_one

theorem infoInt : (Tryz.prog.info? 3).map (fun i => (i.zero, i.size, i.bytes)) = some (some (.int .i64 0), 1, 8) := by kernel_rfl

def FpRel (w0 : World) (fb lo : Nat) (mv rv0 : Value) (N : List Nd) (X : Nat → Prop) (g : Nat) (sv : Value) (wr : World) : Prop :=
  ∃ st met runes rv, Fills N X st met runes ∧ Ft fb mv rv lo met runes wr ∧ wr.ownsRow w0.heap.size 3 1 sv st.length (intsN st) ∧ (∃ gs cap, sv = .slice (some ⟨gs, 0, none⟩) st.length cap) ∧
    (∀ k, sv.ownBlock = some k → k ≠ fb ∧ mv.ownBlock ≠ some k ∧ rv.ownBlock ≠ some k) ∧ g = 2 * met.count false + st.length ∧ g ≤ 2 * N.length + 1 ∧ FMoved fb mv rv0 rv w0 wr

theorem Gr.under {rb lo : Nat} {v : Value} {ns : List NdM} {w w' : World} (h : Gr rb v ns w) (hb : Below lo w w') (hrb : rb < lo) (hv : ∀ g, v.ownBlock = some g → g < lo) : Gr rb v ns w' :=
  ⟨(hb.cell (p := ⟨rb, 10, none⟩) hrb).trans h.cell, (hb.frozen (p := ⟨rb, 10, none⟩) hrb).trans h.free, ownsRow_like h.own fun g hg => hb.block g (hv g hg), h.ne⟩

theorem neq_fn (g : FuncId) (f : Array Value) (w : World) : Sem.run Tryz.prog (binOp BinOp.neq 40 (.func (.func g) #[] f) .nilFunc) w = .ok (.bool true) w := by kernel_rfl
theorem neq_nil (w : World) : Sem.run Tryz.prog (binOp BinOp.neq 40 .nilFunc .nilFunc) w = .ok (.bool false) w := by kernel_rfl

theorem slice_pop (w : World) (gs L caps : Nat) (h : L < caps) : Sem.run Tryz.prog (Instr.slice 104 (.slice (some ⟨gs, 0, none⟩) (L + 1) caps) none (some (.int .i64 (L : Int))) none) w = .ok (.slice (some ⟨gs, 0, none⟩) L caps) w := by
  rw [run_slice_h (P := Tryz.prog) w 104 (some ⟨gs, 0, none⟩) (L + 1) caps (by kernel_rfl) .i64 (L : Int) (by omega) (by omega)]
  have hc : ¬ caps = 0 := by omega
  simp [sliced, go_sem, hc]

set_option maxHeartbeats 2000000 in
set_option maxRecDepth 8000 in
theorem fput_any (w : World) (fb rb lo n : Nat) (mv rv v : Value) (met : List Bool) (runes : List Nat) (ns : List NdM) (N : List Nd) (X : Nat → Prop) (hF : Ft fb mv rv lo met runes w) (hfb : lo ≤ fb) (hlo : lo ≤ w.heap.size)
    (hG : Gr rb v ns w) (hN : NRep lw w (rb - 1) ns N) (hrb : rb < lo) (hv : ∀ g, v.ownBlock = some g → g < lo) (hW : Whole N) (hfr : Front N X met runes) (hn : n < N.length) (hlen : N.length ≤ 1000000) :
    Calls Tryz.prog 45 #[.pointer (some ⟨fb, 0, none⟩), .pointer (some ⟨rb, 0, none⟩), .int .i64 n] w (fun e w' => e = .returned (.tuple #[]) ∧ ∃ rv' met' runes', Ft fb mv rv' lo met' runes' w' ∧ Front N (fun x => X x ∨ x = n) met' runes' ∧ FMoved fb mv rv rv' w w') := by
  have hln := hN.length
  have hmn := hfr.len
  obtain ⟨gm, capm, rfl, hgm1, hgm2, hgm3, _⟩ := hF.row (by omega)
  obtain ⟨gn, capn, rfl, hgn1, hgn2, hgn3⟩ := hG.row (by omega)
  have hgn4 : gn < lo := hv gn rfl
  have hflt := hF.lt
  obtain ⟨i0, hi0, hz0, hz1, hz2⟩ := info_parts infoInt
  rw [hmn] at hF ⊢
  rw [hln] at hG
  have hW0 : Hid (∀ W, W = w.alloc (.cells #[.int .i64 n] 3) → Ft fb (.slice (some ⟨gm, 0, none⟩) N.length capm) rv lo met runes W ∧ FMoved fb (.slice (some ⟨gm, 0, none⟩) N.length capm) rv rv w W ∧ W.ownsRow w.heap.size 3 1 (.slice (some ⟨w.heap.size, 0, none⟩) 1 1) 1 (intsN [n])) := by
    rintro W rfl
    have hg : w.grownBy (w.alloc (.cells #[.int .i64 n] 3)) none := ⟨rfl, rfl, rfl, by simp, fun k hk _ => Below.heap_alloc _ _ _ hk⟩
    exact ⟨hF.other hg (fun k hk => by cases hk), FMoved.refl.other hg (fun k hk => by cases hk), World.ownsRow_lit w #[.int .i64 n] 1 (Nat.le_refl _) (by decide) rfl⟩
  have HF := Lib.hid hF
  have HG := Lib.hid hG
  have HN := Lib.hid hN
  have HW := Lib.hid hW
  have HFI := Lib.hid (hfr.fills hn)
  have hsr : rv.ownBlock ≠ some w.heap.size := fun e => by have := (hF.orr.lt _ e).2; omega
  have HSR := Lib.hid hsr
  have HLN := Lib.hid hln
  have HMN := Lib.hid hmn
  clear hF hG hN hW hfr hv hsr hln hmn
  go_enter Tryz.func45, Tryz.ntmps45
  go_wp2_with fail
  generalize hWe : w.alloc (.cells #[.int .i64 n] 3) = W0 at *
  obtain ⟨hF0, hM0, hS0⟩ := hW0.out W0 rfl
  clear hW0 hWe
  have HF0 := Lib.hid hF0
  have HM0 := Lib.hid hM0
  have HS0 := Lib.hid hS0
  clear hF0 hM0 hS0
  have hcap := met.count_le_length (a := false)
  have hcap2 : met.count false ≤ N.length := by rw [← HMN.out]; exact hcap
  clear hcap
  go_loopg [6] (2 * met.count false + 1) (fun g sv wr => FpRel w fb lo (.slice (some ⟨gm, 0, none⟩) N.length capm) rv N (fun x => X x ∨ x = n) g sv wr)
  case atStart => exact ⟨[n], met, runes, rv, HFI.out, HF0.out, HS0.out, ⟨_, _, rfl⟩, fun k hk => by have hk' : w.heap.size = k := (by injection hk); subst hk'; exact ⟨by omega, fun e => by have : gm = w.heap.size := (by injection e); omega, HSR.out⟩, rfl, by omega, HM0.out⟩
  case round =>
    obtain ⟨st, met1, runes1, rv1, hfl, hft, hst, ⟨gs, caps, rfl⟩, hsn, hgq, hgb, hm⟩ := hrel
    have hml := hfl.len
    obtain ⟨hsn1, hsn2, hsn3⟩ := hsn gs rfl
    have HM := Lib.hid hm
    have HT := Lib.hid hft
    have HS := Lib.hid hst
    have HL := Lib.hid hfl
    have HN3 := Lib.hid hsn3
    have hgsm : ¬ gm = gs := fun e => hsn2 (by rw [e]; rfl)
    rcases List.eq_nil_or_concat st with rfl | ⟨st', y, rfl⟩
    · clear hm hft hst hfl hsn hsn2 hsn3
      go_wp2_with fail
      go_end0
      exact ⟨rfl, rv1, met1, runes1, HT.out, HL.out.front, HM.out⟩
    · rw [List.concat_eq_append] at *
      have hyN := (hfl.stack y (by simp)).1
      obtain ⟨b, hb⟩ : ∃ b, met1[y]? = some b := ⟨_, List.getElem?_eq_getElem (by omega)⟩
      rw [List.length_append, List.length_singleton] at hst hgq ⊢
      have hs1 : wr.cell? ⟨gs, st'.length, none⟩ = some (.int .i64 y) := by
        rw [hst.cellAt _ (by omega)]
        simp
      have hs2 : st'.length + 1 ≤ caps := by
        rcases hst.2 with ⟨h, _⟩ | ⟨g', cap', cur, h, _, _, h2, _⟩
        · simp at h
        · simp only [Value.slice.injEq] at h
          omega
      have hs3 := ownsRow_pop (ys := intsN st') hst (by simp)
      have hf0 := hft.c0
      have hf1 := hft.c1
      have hf2 := hft.fz
      have hm1 : wr.cell? ⟨gm, y, none⟩ = some (.bool b) := by
        have := hft.om
        rw [hml] at this
        rw [this.cellAt _ (by omega)]
        simp [hb]
      have hm2 : ∀ j, wr.frozen? ⟨gm, j, none⟩ = false := fun j => by
        have := hft.om
        rw [hml] at this
        exact this.frozenAt j
      have HS3 := Lib.hid hs3
      have HSN : Hid (∀ k, (Value.slice (some ⟨gs, 0, none⟩) st'.length caps).ownBlock = some k → k ≠ fb ∧ (Value.slice (some ⟨gm, 0, none⟩) N.length capm).ownBlock ≠ some k ∧ rv1.ownBlock ≠ some k) := fun k hk => by have : gs = k := (by injection hk); subst this; exact ⟨hsn1, hsn2, hsn3⟩
      have hcl : met1.count false ≤ N.length := by rw [← hml]; exact List.count_le_length
      clear hm hft hst hfl hsn hsn2 hsn3 HS hs3
      generalize hL : st'.length = L at *
      have HLL := Lib.hid hL
      clear hL
      have hsl := fun w => slice_pop w gs L caps (by omega)
      have hc0 : ¬ caps = 0 := by omega
      have hi1 : (0 : Int) ≤ (L : Int) := by omega
      have hi2 : (L : Int) ≤ (caps : Int) := by omega
      have hw3 : IntKind.i64.wrap (L : Int) = (L : Int) := by rw [IntKind.wrap_i64] <;> omega
      have HCL := Lib.hid hcl
      cases b with
      | true =>
        go_wp2_with fail
        go_roundg (2 * met1.count false + L)
        case measure => omega
        case rel => exact ⟨st', met1, runes1, rv1, HL.out.skip hb, HT.out, by rw [HLL.out]; exact HS3.out, ⟨gs, caps, by rw [HLL.out]⟩, HSN.out, by rw [HLL.out], by omega, HM.out⟩
      | false =>
        have hcf := count_set_false hb
        have hms := met_step (y := y) (by have := HT.out; rw [← hml] at this; exact this)
        rw [hml] at hms
        have HMS := Lib.hid hms
        have HSB := Lib.hid (HS3.out.kept (setCell_grown wr ⟨gm, y, none⟩ (.bool true)) (.inr (fun e => hgsm (by have : gs = gm := (by injection e); exact this.symm))))
        clear hms
        by_cases hy0 : y = 0
        · subst hy0
          go_wp2_with fail
          go_roundg (2 * (met1.set 0 true).count false + L)
          case measure => omega
          case rel => exact ⟨st', met1.set 0 true, runes1, rv1, HL.out.zero hb, HMS.out.1, by rw [HLL.out]; exact HSB.out, ⟨gs, caps, by rw [HLL.out]⟩, HSN.out, by rw [HLL.out], by omega, HM.out.trans HMS.out.2⟩
        obtain ⟨d, hd⟩ : ∃ d, N[y]? = some d := ⟨_, List.getElem?_eq_getElem hyN⟩
        have hbel := HM.out.below HF.out hfb hlo
        have hGr := HG.out.under hbel hrb (fun g hg => by have : gn = g := (by injection hg); omega)
        rw [← HLN.out] at hGr
        have hNr := NRep.like (fun k _ hk => hbel.block k (by omega)) hbel.size HN.out
        obtain ⟨nd, hnd, his⟩ := hNr.get hd
        obtain ⟨k0, k1, k2, _⟩ := hGr.node hnd
        have hrc := hGr.cell
        rw [HLN.out] at hrc
        have hg1 : ¬ gm = gn := by omega
        have hg2 : ¬ gm = rb := by omega
        have hg3 : ¬ gn = gm := by omega
        have hg4 : ¬ rb = gm := by omega
        have hg5 : ¬ gm = fb := by omega
        have hg6 : ¬ fb = gm := by omega
        obtain ⟨ni, na, nb⟩ := nd
        simp only at k0 k1 k2
        have hyi : ¬ ((y : Int) = 0) := by omega
        clear hbel hGr hNr hnd
        have hnf1 := neq_fn
        have hnf2 := neq_nil
        cases d with
        | rune p a =>
          obtain ⟨⟨C, hC, hI⟩, _, _⟩ := his
          simp only at hI
          obtain ⟨gf, fcap, rfl, _⟩ := id hI
          clear hI hC
          have hrl : runes1.length ≤ N.length := by
            have h1 := HL.out.cnt
            have h2 : met1.count true ≤ met1.length := List.count_le_length
            omega
          have HRL := Lib.hid hrl
          clear hrl
          have hnews : ∀ (j : Nat) (u : Value), [Value.int .i64 (y : Int)][j]? = some u → ((wr.setCell ⟨gm, y, none⟩ (.bool true)).alloc (.cells #[.int .i64 (y : Int)] 3)).cell? ((⟨wr.heap.size, 0, none⟩ : Addr).add j) = some u := World.news_of_block (cs := #[.int .i64 (y : Int)]) (t := 3) (fr := (0, 0)) (by have := heap_alloc_new (wr.setCell ⟨gm, y, none⟩ (.bool true)) (.cells #[.int .i64 (y : Int)] 3); rw [setCell_size] at this; exact this)
          have HNEWS := Lib.hid hnews
          clear hnews
          have hszw := HM.out.size
          go_wp2_with (at_builtin; refine wpList_append_lies _ rfl _ _ _ rfl lo 3 i0 _ 1 8 Tryz.underlying104 hi0 hz0 hz1 hz2 rfl (by omega) rv1 runes1.length (intsN runes1) rfl (HMS.out.1.orr.alloc _) ⟨wr.heap.size, 0, none⟩ 1 1 [.int .i64 (y : Int)] rfl rfl HNEWS.out (by intro u hu; rw [List.mem_singleton.1 hu]; rfl) (by omega) (by have := HRL.out; unfold maxLen; omega) (by have := HRL.out; omega) (by simp; omega) (wr.heap.size + 1) (by simp) ?_)
          intro gg cap2 w2 hown2 hgr2 hat2 hlt2
          have hgsl := (HS3.out.lt gs rfl).2
          have hne2 : gs ≠ gg := fun e => by
            rcases hat2 with h | h
            · exact HN3.out (by rw [h, e])
            · omega
          have HE := Lib.hid (runes_step HMS.out.1 hown2 hgr2 (by rw [setCell_size]; exact hat2))
          obtain ⟨e1, e2, _, _, _⟩ := HE.out
          have hrow : (w2.setCell ⟨fb, 1, none⟩ (.slice (some ⟨gg, 0, none⟩) (runes1.length + 1) cap2)).ownsRow w.heap.size 3 1 (.slice (some ⟨gs, 0, none⟩) L caps) L (intsN st') :=
            ownsRow_like HSB.out fun g hg => HE.out.2.2.2.2 g (by rw [setCell_size]; have : gs = g := (by injection hg); omega) (fun e => hsn1 (by have : gs = g := (by injection hg); omega)) (fun e => HN3.out (by have : gs = g := (by injection hg); rw [this]; exact e))
          have HROW := Lib.hid hrow
          clear hown2 hgr2 hat2 hrow
          go_wp2_with fail
          go_roundg (2 * (met1.set y true).count false + L)
          case measure => omega
          case rel =>
            refine ⟨st', met1.set y true, runes1 ++ [y], _, HL.out.rune hb hy0 hd, HE.out.2.2.1, by rw [HLL.out]; exact HROW.out, ⟨gs, caps, by rw [HLL.out]⟩, fun k hk => ?_, by rw [HLL.out], by omega, HM.out.trans (HMS.out.2.trans HE.out.2.2.2.1)⟩
            have hk' : gs = k := (by injection hk)
            subst hk'
            exact ⟨hsn1, fun e => hgsm (by injection e), fun e => hne2 (by have : gg = gs := (by injection e); exact this.symm)⟩
        | ways a b =>
          obtain ⟨h1, h2, h3⟩ : ni = .nilFunc ∧ na = (a : Nat) ∧ nb = (b : Nat) := his
          subst h1 h2 h3
          have hgsl := HS3.out.lt gs rfl
          have hgs1 : ¬ rb = gs := by omega
          have hgs2 : ¬ gn = gs := by omega
          have hszw := HM.out.size
          go_wp2_with fail
          obtain ⟨S, hSe⟩ : ∃ S : World → Prop, ∀ x, S x ↔ (x.cell? ⟨rb, 10, none⟩ = some (.slice (some ⟨gn, 0, none⟩) N.length capn) ∧ x.cell? ⟨gn, y * 3 + 1, none⟩ = some (.int .i64 (a : Int)) ∧ x.cell? ⟨gn, y * 3 + 2, none⟩ = some (.int .i64 (b : Int))) := ⟨_, fun _ => Iff.rfl⟩
          have hS1 : ∀ x, S x → x.cell? ⟨rb, 10, none⟩ = some (.slice (some ⟨gn, 0, none⟩) N.length capn) := fun x hx => ((hSe x).1 hx).1
          have hS2 : ∀ x, S x → x.cell? ⟨gn, y * 3 + 1, none⟩ = some (.int .i64 (a : Int)) := fun x hx => ((hSe x).1 hx).2.1
          have hS3 : ∀ x, S x → x.cell? ⟨gn, y * 3 + 2, none⟩ = some (.int .i64 (b : Int)) := fun x hx => ((hSe x).1 hx).2.2
          have HSK : Hid (∀ x : World, x.heap[rb]? = wr.heap[rb]? → x.heap[gn]? = wr.heap[gn]? → S x) := fun x h1 h2 => (hSe x).2 ⟨(World.cell?_of_block (w := wr) h1).trans hrc, (World.cell?_of_block (w := wr) h2).trans k1, (World.cell?_of_block (w := wr) h2).trans k2⟩
          have hq1 : (wr.setCell ⟨gm, y, none⟩ (.bool true)).heap[rb]? = wr.heap[rb]? := setCell_block_ne _ _ _ _ hg4
          have hq2 : (wr.setCell ⟨gm, y, none⟩ (.bool true)).heap[gn]? = wr.heap[gn]? := setCell_block_ne _ _ _ _ hg3
          have hheld0 : S (wr.setCell ⟨gm, y, none⟩ (.bool true)).drew := HSK.out _ hq1 hq2
          have hSA : S ((wr.setCell ⟨gm, y, none⟩ (.bool true)).drew.alloc (.cells #[.int .i64 (a : Int), .int .i64 (b : Int)] 3)) := HSK.out _ ((Below.heap_alloc _ _ _ (by show rb < (wr.setCell ⟨gm, y, none⟩ (.bool true)).heap.size; rw [setCell_size]; omega)).trans hq1) ((Below.heap_alloc _ _ _ (by show gn < (wr.setCell ⟨gm, y, none⟩ (.bool true)).heap.size; rw [setCell_size]; omega)).trans hq2)
          have HSA := Lib.hid hSA
          have HQ1 := Lib.hid hq1
          have HQ2 := Lib.hid hq2
          clear hSe hq1 hq2 hSA k0 k1 k2 hrc
          refine wp_region_held_drew (S := S) (by kernel_rfl) hheld0 (fun hheld => ?_)
          clear hheld0
          refine wpAnyH_take (i := 0) (v := .slice (some ⟨gs, 0, none⟩) L caps) rfl (by kernel_rfl) (by kernel_rfl) (by kernel_rfl) (fun _ _ _ h => h) (Or.inl ⟨by rfl, by intro x hx; go_simp⟩) hheld ?_
          refine wpAnyH_take (i := 1) (v := .pointer (some ⟨rb, 0, none⟩)) rfl (by kernel_rfl) (by kernel_rfl) (by kernel_rfl) (fun _ _ _ h => h) (Or.inl ⟨by rfl, by intro x hx; go_simp⟩) hheld ?_
          refine wpAnyH_take (i := 2) (v := .pointer (some ⟨rb, 0, none⟩)) rfl (by kernel_rfl) (by kernel_rfl) (by kernel_rfl) (fun _ _ _ h => h) (Or.inl ⟨by rfl, by intro x hx; go_simp⟩) hheld ?_
          refine wpAnyH_take (i := 3) (v := .pointer (some ⟨rb, 10, none⟩)) rfl (by kernel_rfl) (by kernel_rfl) (by kernel_rfl) (fun _ _ _ h => h) (Or.inl ⟨by rfl, by intro x hx; go_simp⟩) hheld ?_
          refine wpAnyH_take (i := 4) (v := .slice (some ⟨gn, 0, none⟩) N.length capn) rfl (by kernel_rfl) (by kernel_rfl) (by kernel_rfl) (fun _ _ _ h => h) (Or.inl ⟨by rfl, by intro x hx; have hq := hS1 x hx; go_simp⟩) hheld ?_
          refine wpAnyH_take (i := 5) (v := .int .i64 y) rfl (by kernel_rfl) (by kernel_rfl) (by kernel_rfl) (fun _ _ _ h => h) (Or.inl ⟨by rfl, by intro x hx; go_simp⟩) hheld ?_
          refine wpAnyH_take (i := 6) (v := .pointer (some ⟨gn, y * 3, none⟩)) rfl (by kernel_rfl) (by kernel_rfl) (by kernel_rfl) (fun _ _ _ h => h) (Or.inl ⟨by rfl, by intro x hx; go_simp⟩) hheld ?_
          refine wpAnyH_take (i := 7) (v := .pointer (some ⟨gn, y * 3 + 1, none⟩)) rfl (by kernel_rfl) (by kernel_rfl) (by kernel_rfl) (fun _ _ _ h => h) (Or.inl ⟨by rfl, by intro x hx; go_simp⟩) hheld ?_
          refine wpAnyH_take (i := 8) (v := .int .i64 (a : Int)) rfl (by kernel_rfl) (by kernel_rfl) (by kernel_rfl) (fun _ _ _ h => h) (Or.inl ⟨by rfl, by intro x hx; have hq := hS2 x hx; go_simp⟩) hheld ?_
          refine wpAnyH_take (i := 9) (v := .pointer (some ⟨rb, 0, none⟩)) rfl (by kernel_rfl) (by kernel_rfl) (by kernel_rfl) (fun _ _ _ h => h) (Or.inl ⟨by rfl, by intro x hx; go_simp⟩) hheld ?_
          refine wpAnyH_take (i := 10) (v := .pointer (some ⟨rb, 0, none⟩)) rfl (by kernel_rfl) (by kernel_rfl) (by kernel_rfl) (fun _ _ _ h => h) (Or.inl ⟨by rfl, by intro x hx; go_simp⟩) hheld ?_
          refine wpAnyH_take (i := 11) (v := .pointer (some ⟨rb, 10, none⟩)) rfl (by kernel_rfl) (by kernel_rfl) (by kernel_rfl) (fun _ _ _ h => h) (Or.inl ⟨by rfl, by intro x hx; go_simp⟩) hheld ?_
          refine wpAnyH_take (i := 12) (v := .slice (some ⟨gn, 0, none⟩) N.length capn) rfl (by kernel_rfl) (by kernel_rfl) (by kernel_rfl) (fun _ _ _ h => h) (Or.inl ⟨by rfl, by intro x hx; have hq := hS1 x hx; go_simp⟩) hheld ?_
          refine wpAnyH_take (i := 13) (v := .int .i64 y) rfl (by kernel_rfl) (by kernel_rfl) (by kernel_rfl) (fun _ _ _ h => h) (Or.inl ⟨by rfl, by intro x hx; go_simp⟩) hheld ?_
          refine wpAnyH_take (i := 14) (v := .pointer (some ⟨gn, y * 3, none⟩)) rfl (by kernel_rfl) (by kernel_rfl) (by kernel_rfl) (fun _ _ _ h => h) (Or.inl ⟨by rfl, by intro x hx; go_simp⟩) hheld ?_
          refine wpAnyH_take (i := 15) (v := .pointer (some ⟨gn, y * 3 + 2, none⟩)) rfl (by kernel_rfl) (by kernel_rfl) (by kernel_rfl) (fun _ _ _ h => h) (Or.inl ⟨by rfl, by intro x hx; go_simp⟩) hheld ?_
          refine wpAnyH_take (i := 16) (v := .int .i64 (b : Int)) rfl (by kernel_rfl) (by kernel_rfl) (by kernel_rfl) (fun _ _ _ h => h) (Or.inl ⟨by rfl, by intro x hx; have hq := hS3 x hx; go_simp⟩) hheld ?_
          refine wpAnyH_ready (rs := [17]) (by kernel_rfl) (by simp) ?_
          refine AllReadyH.cons rfl (fun Kk hKk => ?_) AllReadyH.nil
          go_simp
          refine hKk.out _ _ HSA.out (fun hheld => ?_)
          clear hKk Kk
          refine wpAnyH_ready (rs := [18]) (by kernel_rfl) (by simp) ?_
          refine AllReadyH.cons rfl (fun Kk hKk => ?_) AllReadyH.nil
          have hnews : ∀ (j : Nat) (u : Value), [Value.int .i64 (a : Int), Value.int .i64 (b : Int)][j]? = some u → ((wr.setCell ⟨gm, y, none⟩ (.bool true)).drew.alloc (.cells #[.int .i64 (a : Int), .int .i64 (b : Int)] 3)).cell? ((⟨wr.heap.size, 0, none⟩ : Addr).add j) = some u := World.news_of_block (cs := #[.int .i64 (a : Int), .int .i64 (b : Int)]) (t := 3) (fr := (0, 0)) (by have := heap_alloc_new (wr.setCell ⟨gm, y, none⟩ (.bool true)).drew (.cells #[.int .i64 (a : Int), .int .i64 (b : Int)] 3); rw [show (wr.setCell ⟨gm, y, none⟩ (.bool true)).drew.heap.size = wr.heap.size from setCell_size _ _ _] at this; exact this)
          have hsz1 : (wr.setCell ⟨gm, y, none⟩ (.bool true)).drew.heap.size = wr.heap.size := setCell_size _ _ _
          have hg0 : (wr.setCell ⟨gm, y, none⟩ (.bool true)).grownBy ((wr.setCell ⟨gm, y, none⟩ (.bool true)).drew.alloc (.cells #[.int .i64 (a : Int), .int .i64 (b : Int)] 3)) (some gs) := ⟨rfl, rfl, rfl, by simp, fun k hk _ => Below.heap_alloc _ _ _ hk⟩
          refine step_append_lies _ (by rfl) _ _ _ (by rfl) w.heap.size 3 i0 _ 1 8 Tryz.underlying104 hi0 hz0 hz1 hz2 rfl (by omega) _ L (intsN st') (by rfl) (HSB.out.drew.alloc _) ⟨wr.heap.size, 0, none⟩ 2 2 [.int .i64 (a : Int), .int .i64 (b : Int)] (by rfl) (by rfl) hnews (by intro u hu; rcases List.mem_cons.1 hu with rfl | hu; rfl; rw [List.mem_singleton.1 hu]; rfl) (by omega) (by unfold maxLen; omega) (by omega) (by simp; omega) (wr.heap.size + 1) (by simp) ?_
          intro gg cap2 w2 hown2 hgr2 hat2 hlt2
          have hgr := hg0.trans hgr2
          have hgg : gg = gs ∨ gg = wr.heap.size + 1 := hat2.elim (fun h => .inl (by have : gs = gg := (by injection h); exact this.symm)) .inr
          have hsw : S w2 := HSK.out w2 ((hgr.block rb (by rw [setCell_size]; omega) (fun e => hgs1 (by injection e))).trans HQ1.out) ((hgr.block gn (by rw [setCell_size]; omega) (fun e => hgs2 (by injection e))).trans HQ2.out)
          refine hKk.out _ _ hsw (fun hheld => ?_)
          have HGR := Lib.hid hgr
          have HOWN := Lib.hid hown2
          clear hKk Kk hsw hgr hgr2 hown2 hnews hg0
          refine wpAnyH_ready (rs := [19]) (by kernel_rfl) (by simp) ?_
          refine AllReadyH.cons rfl (fun Kk hKk => ?_) AllReadyH.nil
          go_simp
          refine hKk.out _ _ hheld (fun hheld => ?_)
          clear hKk Kk
          refine wpAnyH_done (by kernel_rfl) ?_ _
          go_wp2_with fail
          go_roundg (2 * (met1.set y true).count false + (L + 2))
          case measure => omega
          case rel =>
            have hl2 : (st' ++ [a, b]).length = L + 2 := by simp [HLL.out]
            have hft2 : Ft fb (.slice (some ⟨gm, 0, none⟩) N.length capm) rv1 lo (met1.set y true) runes1 w2 := HMS.out.1.other HGR.out (fun k hk => by have : gs = k := (by injection hk); subst this; exact HSN.out gs rfl)
            refine ⟨st' ++ [a, b], met1.set y true, runes1, rv1, HL.out.ways HW.out hb hy0 hd, hft2, ?_, ⟨gg, cap2, by rw [hl2]⟩, fun k hk => ?_, by rw [hl2], by omega, (HM.out.trans HMS.out.2).other HGR.out (fun k hk => by have : gs = k := (by injection hk); subst this; exact hgsl.1)⟩
            · rw [hl2, show intsN (st' ++ [a, b]) = intsN st' ++ [.int .i64 (a : Int), .int .i64 (b : Int)] by simp]
              exact HOWN.out
            · have hk' : gg = k := (by injection hk)
              subst hk'
              rcases hgg with rfl | rfl
              · exact HSN.out _ rfl
              · have q1 := HF.out.lt
                have q2 := fun e => (HT.out.orr.lt (wr.heap.size + 1) e).2
                exact ⟨by omega, fun e => by have : gm = wr.heap.size + 1 := (by injection e); omega, fun e => by have := q2 e; omega⟩

end Go.Proofs.YtgcmjidphoklkaaGreatDoor.Rx
