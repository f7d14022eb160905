/- Walk over layer 5's Match. -/
import Derived.Test.YtgcmjidphoklkaaGreatDoorRxFp
import Derived.Laws.RangeAny
import Derived.Lib.OthersKept
namespace Go.Proofs.YtgcmjidphoklkaaGreatDoor.Rx
open Go.RowKit Go.Sort
variable {lw : Nat}

attribute [local go_sem] run_store_one

theorem infoBool : (Tryz.prog.info? 4).map (fun i => (i.zero, i.size, i.bytes)) = some (some (.bool false), 1, 1) := by kernel_rfl

/-- The runes of a text from place pos on. -/
def rnF (s : ByteArray) : Nat → Nat → List Int
  | 0, _ => []
  | f + 1, pos => if pos < s.size then ((Utf8.decode s pos).1 : Int) :: rnF s f (pos + (Utf8.decode s pos).2) else []
def runesOf (s : ByteArray) : List Int := rnF s s.size 0

theorem rnF_end (s : ByteArray) (f pos : Nat) (h : ¬ pos < s.size) : rnF s f pos = [] := by cases f <;> simp [rnF, h]

theorem width_pos (s : ByteArray) (pos : Nat) (h : pos < s.size) : 1 ≤ (Utf8.decode s pos).2 := by
  by_cases ha : (s[pos]'h).toNat < 128
  · rw [decode_ascii s pos h ha]
    exact Nat.le_refl _
  · exact (decode_high s pos h (by omega)).2

theorem rnF_fuel (s : ByteArray) : ∀ f g pos, s.size - pos ≤ f → s.size - pos ≤ g → rnF s f pos = rnF s g pos
  | 0, g, pos, h, _ => by rw [rnF_end s 0 pos (by omega), rnF_end s g pos (by omega)]
  | f + 1, 0, pos, _, h => by rw [rnF_end s (f + 1) pos (by omega), rnF_end s 0 pos (by omega)]
  | f + 1, g + 1, pos, h1, h2 => by
    simp only [rnF]
    by_cases hp : pos < s.size
    · have := width_pos s pos hp
      rw [if_pos hp, if_pos hp, rnF_fuel s f g _ (by omega) (by omega)]
    · rw [if_neg hp, if_neg hp]

/-- The runes from a place on. -/
def rnAt (s : ByteArray) (pos : Nat) : List Int := rnF s (s.size - pos) pos
theorem rnAt_cons (s : ByteArray) (pos : Nat) (h : pos < s.size) : rnAt s pos = ((Utf8.decode s pos).1 : Int) :: rnAt s (pos + (Utf8.decode s pos).2) := by
  have hw := width_pos s pos h
  unfold rnAt
  obtain ⟨f, hf⟩ : ∃ f, s.size - pos = f + 1 := ⟨s.size - pos - 1, by omega⟩
  rw [hf]
  simp only [rnF, if_pos h]
  rw [rnF_fuel s f (s.size - (pos + (Utf8.decode s pos).2)) _ (by omega) (by omega)]
theorem rnAt_end (s : ByteArray) (pos : Nat) (h : ¬ pos < s.size) : rnAt s pos = [] := rnF_end s _ _ h

/-- A new front. -/
theorem front_new {lo n gm : Nat} {w1 : World} (hown : w1.ownsRow lo 4 1 (.slice (some ⟨gm, 0, none⟩) n n) n (madeCells #[.bool false] n).toList) :
    Ft w1.heap.size (.slice (some ⟨gm, 0, none⟩) n n) (.slice none 0 0) lo (List.replicate n false) [] (w1.alloc (.cells #[.slice (some ⟨gm, 0, none⟩) n n, .slice none 0 0] 106)) := by
  have hlt := (hown.lt gm rfl).2
  refine ⟨by simp [go_sem], by simp [go_sem], fun j => by simp [go_sem], ?_, World.ownsRow_nil _ _ _ _, fun e => by have : gm = w1.heap.size := (by injection e); omega, fun e => (by cases e), fun g _ e => (by cases e)⟩
  rw [toList_madeCells_one] at hown
  rw [List.length_replicate]
  rw [show boolsN (List.replicate n false) = List.replicate n (Value.bool false) by simp]
  exact hown.alloc _

theorem slice_one {w : World} {base : Nat} {e : TypeId} {size : Nat} {v : Value} {n : Nat} {xs : List Value} (h : w.ownsRow base e size v n xs) : v.oneCell' = true := by
  rcases h.2 with ⟨hv, _⟩ | ⟨g, cap, cur, hv, _⟩ <;> rw [hv] <;> rfl

/-- One front is laid over another one's cells. -/
theorem front_copy {w : World} {fb gb lo : Nat} {mv rv mv0 rv0 : Value} {met : List Bool} {runes : List Nat} (h : Ft gb mv rv lo met runes w) (h0 : w.cell? ⟨fb, 0, none⟩ = some mv0) (h1 : w.cell? ⟨fb, 1, none⟩ = some rv0) (hz : ∀ j, w.frozen? ⟨fb, j, none⟩ = false)
    (hm : mv.ownBlock ≠ some fb) (hr : rv.ownBlock ≠ some fb) : Ft fb mv rv lo met runes ((w.setCell ⟨fb, 0, none⟩ mv).setCell ⟨fb, 1, none⟩ rv) := by
  have hst : ∀ k, k ≠ fb → ((w.setCell ⟨fb, 0, none⟩ mv).setCell ⟨fb, 1, none⟩ rv).heap[k]? = w.heap[k]? := fun k hk => (setCell_block_ne _ _ _ _ hk).trans (setCell_block_ne _ _ _ _ hk)
  have a1 : (w.setCell ⟨fb, 0, none⟩ mv).cell? ⟨fb, 1, none⟩ = some rv0 := (World.cell?_setCell_other w ⟨fb, 0, none⟩ ⟨fb, 1, none⟩ _ (by simp)).trans h1
  refine ⟨?_, World.cell?_setCell_same _ _ _ a1, fun j => by rw [World.frozen?_setCell, World.frozen?_setCell]; exact hz j, ownsRow_like h.om fun g hg => hst g (fun e => hm (e ▸ hg)), ownsRow_like h.orr fun g hg => hst g (fun e => hr (e ▸ hg)), hm, hr, h.nmr⟩
  exact (World.cell?_setCell_other _ ⟨fb, 1, none⟩ ⟨fb, 0, none⟩ _ (by simp)).trans (World.cell?_setCell_same _ _ _ h0)

def MtRel (w : World) (s : ByteArray) (it fb : Nat) (N : List Nd) (first : Nat) (g : Nat) (wr : World) : Prop :=
  ∃ pos met runes mv rv X, wr.heap[it]? = some (.stringIter s pos) ∧ Ft fb mv rv w.heap.size met runes wr ∧ Front N X met runes ∧ (AccX N X (rnAt s pos) ↔ AccX N (fun x => x = first) (rnAt s 0)) ∧
    it ≠ fb ∧ mv.ownBlock ≠ some it ∧ rv.ownBlock ≠ some it ∧ g = s.size - pos ∧ Below w.heap.size w wr

def InRel (w2 : World) (lo gb : Nat) (gv : Value) (N : List Nd) (runes : List Nat) (c : Int) (g : Nat) (i : Value) (wr : World) : Prop :=
  ∃ (k : Nat) (met : List Bool) (l : List Nat) (rv : Value), k + g = runes.length ∧ i = .int .i64 k ∧ Ft gb gv rv lo met l wr ∧ Front N (Leads N (runes.take k) c) met l ∧ FMoved gb gv (.slice none 0 0) rv w2 wr

set_option maxHeartbeats 4000000 in
set_option maxRecDepth 8000 in
theorem match_any (w : World) (rb : Nat) (r : Re) (c : P9) (K C : List Nat) (v : Value) (ns : List NdM) (hR : RegexAt lw w rb r c K C v ns) (hwf : Re.WF r) (s : ByteArray) (hlen : r.graph.2.length ≤ 1000000) :
    Calls Tryz.prog 29 #[.pointer (some ⟨rb, 0, none⟩), .string s] w (fun e w' => Below w.heap.size w w' ∧ ∃ b : Bool, e = .returned (.bool b) ∧ (b = true ↔ Re.L r (rnAt s 0))) := by
  have hG := hR.gr
  have hN := hR.nodes
  have hfi := hR.first
  have hrb := hR.lt
  obtain ⟨hW, hfl⟩ := Re.graph_whole r hwf
  have hacc := Re.graph_acc r hwf (rnAt s 0)
  clear hR
  generalize r.graph.2 = N at *
  generalize r.graph.1 = first at *
  have hln := hN.length
  have hNpos : 0 < N.length := by omega
  obtain ⟨gn, capn, rfl, hgn1, hgn2, hgn3⟩ := hG.row (by omega)
  have hrc := hG.cell
  rw [hln] at hrc hG
  obtain ⟨ib, hib, hzb, hzb1, hzb2⟩ := info_parts infoBool
  have HG := Lib.hid hG
  have HN := Lib.hid hN
  have HW := Lib.hid hW
  have HFL := Lib.hid hfl
  have HACC := Lib.hid hacc
  have HLN := Lib.hid hln
  clear hG hN hW hacc hln
  go_enter Tryz.func29, Tryz.ntmps29
  go_wp2_with (at_make; refine wpList_make_full _ rfl _ _ 103 rfl w.heap.size 4 ib (.bool false) 1 Tryz.underlying103 hib hzb hzb1 .i64 .i64 _ _ N.length rfl rfl rfl rfl (by rw [hzb2]; omega) (by unfold maxLen; omega) (Nat.le_refl _) ?_)
  intro w1 hown1 hgr1
  have hsz1 : w.heap.size < w1.heap.size := (hown1.lt _ rfl).2
  have HF1 := Lib.hid (front_new hown1)
  have hbl1 : Below w.heap.size w w1 := (Below.refl _ _).grown hgr1 (Nat.le_refl _) (fun k hk => by cases hk)
  have HB1 := Lib.hid (hbl1.alloc (by omega) (.cells #[.slice (some ⟨w.heap.size, 0, none⟩) N.length N.length, .slice none 0 0] 106))
  have a1 := (hbl1.cell (p := ⟨rb, 10, none⟩) hrb).trans hrc
  have a2 := (hbl1.cell (p := ⟨rb, 11, none⟩) hrb).trans hfi
  clear hown1 hgr1 hbl1
  have hrb1 : rb < w1.heap.size := by omega
  have hrbn : ¬ rb = w1.heap.size := by omega
  go_wp2_with fail
  generalize hWe : w1.alloc (.cells #[.slice (some ⟨w.heap.size, 0, none⟩) N.length N.length, .slice none 0 0] 106) = W at *
  have hsW : W.heap.size = w1.heap.size + 1 := by rw [← hWe]; simp
  clear hWe a1 a2
  have HV : Hid (∀ g, (Value.slice (some ⟨gn, 0, none⟩) N.length capn).ownBlock = some g → g < w.heap.size) := fun g hg => by have : gn = g := (by injection hg); omega
  refine (fput_any W w1.heap.size rb w.heap.size first _ _ _ _ [] ns N (fun _ => False) HF1.out (by omega) (by omega) (HG.out.under HB1.out hrb HV.out) (HN.out.like (fun k _ hk => HB1.out.block k (by omega)) HB1.out.size) hrb HV.out HW.out (Front.empty N) HFL.out hlen).mono ?_
  rintro e w3 ⟨rfl, rv3, met3, runes3, hF3, hfr3, hm3⟩
  have HB3 := Lib.hid (HB1.out.trans (hm3.below HF1.out (by omega) (by omega)))
  have hsz3 := hm3.size
  have HF3 := Lib.hid hF3
  have HFR3 := Lib.hid hfr3
  clear hF3 hfr3 hm3
  go_wp2_with fail
  go_loopg [7] s.size (fun g _ wr => MtRel w s w3.heap.size w1.heap.size N first g wr)
  case atStart =>
    have hit : (w3.iter s 0).heap[w3.heap.size]? = some (.stringIter s 0) := World.iter_heap w3 s 0
    have h1 := HF3.out.lt
    have h2 := HF3.out.om.lt
    have h3 := HF3.out.orr.lt
    exact ⟨0, met3, runes3, _, rv3, _, hit, HF3.out.like (fun k hk => Below.heap_alloc _ _ _ (by rcases hk with rfl | hk | hk; exact h1; exact (h2 k hk).2; exact (h3 k hk).2)), HFR3.out, ⟨fun ⟨x, hx, ha⟩ => ⟨x, hx.elim False.elim id, ha⟩, fun ⟨x, hx, ha⟩ => ⟨x, .inr hx, ha⟩⟩, by omega, fun e => by have := (h2 _ e).2; omega, fun e => by have := (h3 _ e).2; omega, by simp, HB3.out.alloc (by omega) _⟩
  case round =>
    obtain ⟨pos, met, runes, mv, rv, X, hit, hft, hfr, hax, hi1, hi2, hi3, hgq, hbl⟩ := hrel
    have hml := hfr.len
    obtain ⟨gm, capm, rfl, hgm1, hgm2, hgm3, hgm4⟩ := hft.row (by omega)
    have hb1 := (hbl.cell (p := ⟨rb, 10, none⟩) hrb).trans hrc
    have HT := Lib.hid hft
    have HFR := Lib.hid hfr
    have HAX := Lib.hid hax
    have HBL := Lib.hid hbl
    have HIT := Lib.hid hit
    have hsr : w3.heap.size < wr.heap.size := (Array.getElem?_eq_some_iff.1 hit).1
    by_cases hp : pos < s.size
    · have hnx : ∀ ty, (Instr.next (.pointer (some ⟨w3.heap.size, 0, none⟩)) true ty).run Tryz.prog wr = _ := fun ty => Lib.run_next_any_at wr w3.heap.size s pos ty hit hp
      have hwp := width_pos s pos hp
      have hvs : ∃ ao capr, rv = .slice ao runes.length capr := by
        rcases hft.orr.2 with ⟨hv, h0⟩ | ⟨g, cap, cur, hv, _⟩
        · exact ⟨none, 0, by rw [hv, h0]⟩
        · exact ⟨_, _, hv⟩
      obtain ⟨ao, capr, rfl⟩ := hvs
      have HNM := Lib.hid hi2
      have HNR := Lib.hid hi3
      have hitn : w3.heap.size ≠ w1.heap.size := hi1
      -- the world behind the iterator's step
      have hwi : ∀ k, k ≠ w3.heap.size → (wr.iterAt w3.heap.size s (pos + (Utf8.decode s pos).2)).heap[k]? = wr.heap[k]? := fun k hk => Lib.iterAt_other _ _ _ _ _ hk
      have hit2 := Lib.iterAt_heap wr w3.heap.size s pos (pos + (Utf8.decode s pos).2) hit
      have hsi : (wr.iterAt w3.heap.size s (pos + (Utf8.decode s pos).2)).heap.size = wr.heap.size := Lib.iterAt_size _ _ _ _
      have hfti : Ft w1.heap.size (.slice (some ⟨gm, 0, none⟩) met.length capm) (.slice ao runes.length capr) w.heap.size met runes (wr.iterAt w3.heap.size s (pos + (Utf8.decode s pos).2)) := hft.like fun k hk => hwi k (by
        rcases hk with rfl | hk | hk
        · exact fun e => hitn e.symm
        · exact fun e => hi2 (e ▸ hk)
        · exact fun e => hi3 (e ▸ hk))
      have hbi := Lib.below_iterAt hbl (k := w3.heap.size) (by omega) s (pos + (Utf8.decode s pos).2)
      have b1 : (wr.iterAt w3.heap.size s (pos + (Utf8.decode s pos).2)).cell? ⟨rb, 10, none⟩ = some (.slice (some ⟨gn, 0, none⟩) N.length capn) := (hbi.cell (p := ⟨rb, 10, none⟩) hrb).trans hrc
      have HTI := Lib.hid hfti
      have HBI := Lib.hid hbi
      have HIT2 := Lib.hid hit2
      have HSI := Lib.hid hsi
      clear hft hfr hax hbl hit hb1 hwi hit2 hfti hbi hi2 hi3 HT HBL HIT hsi
      generalize hci : wr.iterAt w3.heap.size s (pos + (Utf8.decode s pos).2) = wi at *
      go_wp2_with (at_make; refine wpList_make_full _ rfl _ _ 103 rfl w.heap.size 4 ib (.bool false) 1 Tryz.underlying103 hib hzb hzb1 .i64 .i64 _ _ N.length rfl rfl rfl rfl (by rw [hzb2]; omega) (by unfold maxLen; omega) (by have := HSI.out; omega) ?_)
      intro w5 hown5 hgr5
      have hszi := HSI.out
      have hs5 : wi.heap.size < w5.heap.size := (hown5.lt _ rfl).2
      have hga : w5.grownBy (w5.alloc (.cells #[.slice (some ⟨wi.heap.size, 0, none⟩) N.length N.length, .slice none 0 0] 106)) none := ⟨rfl, rfl, rfl, by simp, fun k hk _ => Below.heap_alloc _ _ _ hk⟩
      have hg6 := hgr5.trans hga
      have HF6 := Lib.hid (front_new hown5)
      have HT6 := Lib.hid (HTI.out.other hg6 (fun k hk => by cases hk))
      have HB6 := Lib.hid (HBI.out.grown hg6 (by omega) (fun k hk => by cases hk))
      have HIT6 := Lib.hid ((hg6.block w3.heap.size (by omega) (by simp)).trans HIT2.out)
      have b2 : w5.cell? ⟨w1.heap.size, 1, none⟩ = some (.slice ao runes.length capr) := (HTI.out.other hgr5 (fun k hk => by cases hk)).c1
      have hF5 : w1.heap.size < w5.heap.size := by have := HTI.out.lt; omega
      have hF6 : ¬ w1.heap.size = w5.heap.size := by omega
      have hgmi := (HTI.out.om.lt gm rfl).2
      clear hown5 hgr5 hga hg6 hnx b1 hszi
      go_wp2_with fail
      generalize hWe6 : w5.alloc (.cells #[.slice (some ⟨wi.heap.size, 0, none⟩) N.length N.length, .slice none 0 0] 106) = W6 at *
      have hsW6 : W6.heap.size = w5.heap.size + 1 := by rw [← hWe6]; simp
      clear hWe6 b2
      go_loopg [41] runes.length (fun g i wr => InRel W6 w.heap.size w5.heap.size (.slice (some ⟨wi.heap.size, 0, none⟩) N.length N.length) N runes ((Utf8.decode s pos).1 : Int) g i wr)
      case atStart => exact ⟨0, _, [], .slice none 0 0, by omega, rfl, HF6.out, (Front.empty N).congr (fun x => ⟨False.elim, fun ⟨y, p, hy, _⟩ => by simp at hy⟩), FMoved.refl⟩
      case round =>
        obtain ⟨k, gmet, gl, grv, hkg, rfl, hgt, hgf, hgm⟩ := hrel
        have hszi := HSI.out
        have hkeep : ∀ x, x < W6.heap.size → x ≠ w5.heap.size → x ≠ wi.heap.size → wr.heap[x]? = W6.heap[x]? := fun x hx h1 h2 => hgm.keep x hx h1 (fun e => h2 (by have : wi.heap.size = x := (by injection e); omega)) (by simp [Value.ownBlock])
        have q1 := HTI.out.lt
        have q2 := fun g => (HTI.out.om.lt g)
        have q3 := fun g => (HTI.out.orr.lt g)
        have hft := HT6.out.like (w' := wr) (fun x hx => by
          rcases hx with rfl | hx | hx
          · exact hkeep _ (by omega) (by omega) (by omega)
          · have := (q2 x hx).2; exact hkeep _ (by omega) (by omega) (by omega)
          · have := (q3 x hx).2; exact hkeep _ (by omega) (by omega) (by omega))
        have hbl := HB6.out.trans (hgm.below HF6.out (by omega) (by omega))
        have hitr := (hkeep w3.heap.size (by omega) (by omega) (by omega)).trans HIT6.out
        have hszr := hgm.size
        have HGT := Lib.hid hgt
        have HGF := Lib.hid hgf
        have HGM := Lib.hid hgm
        have HFT := Lib.hid hft
        have HBR := Lib.hid hbl
        have HITR := Lib.hid hitr
        by_cases hlt : k < runes.length
        · obtain ⟨y, hy⟩ : ∃ y, runes[k]? = some y := ⟨_, List.getElem?_eq_getElem hlt⟩
          obtain ⟨hy0, _, p, a, hya⟩ := (HFR.out.lists y).1 (List.mem_of_getElem? hy)
          have hyN : y < N.length := (List.getElem?_eq_some_iff.1 hya).1
          have haN := HW.out.rune y p a hya
          obtain ⟨gr, capr', hvr, _, _⟩ := hft.orr.form (by omega)
          injection hvr with hv1 _ hv3
          subst hv1 hv3
          have d1 : wr.cell? ⟨gr, k, none⟩ = some (.int .i64 y) := by
            rw [hft.orr.cellAt _ (by omega)]
            simp [hy]
          have hGr := HG.out.under hbl hrb HV.out
          have hNr := NRep.like (fun k _ hk => hbl.block k (by omega)) hbl.size HN.out
          rw [← HLN.out] at hGr
          obtain ⟨nd, hnd, his⟩ := hNr.get hya
          obtain ⟨k0, k1, _, _⟩ := hGr.node hnd
          have hrc2 := hGr.cell
          rw [HLN.out] at hrc2
          obtain ⟨⟨C', hC', hI⟩, hna, _⟩ := his
          obtain ⟨ni, na, nb⟩ := nd
          simp only at k0 k1 hI hna
          subst hna
          obtain ⟨g, fcap, rfl, hen, hcall⟩ := hI
          have HCALL := Lib.hid (hcall wr (Like.refl _ _) ((Utf8.decode s pos).1 : Int))
          have HTAKE := Lib.hid (leads_take (G := N) (c := ((Utf8.decode s pos).1 : Int)) hy)
          have HYA := Lib.hid hya
          have HGR := Lib.hid hGr
          have HNR' := Lib.hid hNr
          clear hcall hGr hNr hnd hft hbl hitr hgt hgf hgm hkeep hszi hy hya
          go_wp2_with fail
          refine HCALL.out.mono ?_
          rintro e w7 ⟨rfl, hb7⟩
          have hg7 := grownBy_of_below hb7
          have HG7 := Lib.hid hg7
          have hsz7 := hb7.size
          have hrl : runes.length ≤ N.length := by
            have h1 := HFR.out.cnt
            have h2 : met.count true ≤ met.length := List.count_le_length
            omega
          have hw4 : IntKind.i64.wrap ((k : Int) + 1) = (k : Int) + 1 := by rw [IntKind.wrap_i64] <;> omega
          have r1 := (World.cell?_of_block (w := wr) (a := ⟨rb, 10, none⟩) (hb7.block rb (by omega))).trans hrc2
          have r2 := (World.cell?_of_block (w := wr) (a := ⟨gn, y * 3 + 1, none⟩) (hb7.block gn (by omega))).trans k1
          have HB7 := Lib.hid hb7
          clear HCALL d1 k0 k1 hrc2 hb7 hg7 hen
          rcases hpc : p ((Utf8.decode s pos).1 : Int) with _ | _
          · have HPC := Lib.hid hpc
            go_wp2_with fail
            go_roundg (gk - 1)
            case measure => omega
            case rel => exact ⟨k + 1, gmet, gl, grv, by omega, by simp, HGT.out.other HG7.out (fun k hk => by cases hk), HGF.out.congr (fun x => ⟨fun hx => (HTAKE.out x).2 (.inl hx), fun hx => ((HTAKE.out x).1 hx).elim id (fun ⟨q, hq, hqc⟩ => by rw [HYA.out] at hq; cases hq; rw [HPC.out] at hqc; cases hqc)⟩), HGM.out.other HG7.out (fun k hk => by cases hk)⟩
          · have HPC := Lib.hid hpc
            go_wp2_with fail
            refine (fput_any w7 w5.heap.size rb w.heap.size a _ grv _ gmet gl ns N _ (HGT.out.other HG7.out (fun k hk => by cases hk)) (by omega) (by omega) ((HLN.out ▸ HGR.out).below HB7.out (by omega)) (HNR'.out.like (fun k _ hk => HB7.out.block k (by omega)) HB7.out.size) hrb HV.out HW.out HGF.out haN hlen).mono ?_
            rintro e w8 ⟨rfl, rv8, met8, l8, hF8, hfr8, hm8⟩
            have HF8 := Lib.hid hF8
            have HFR8 := Lib.hid hfr8
            have HM8 := Lib.hid hm8
            clear hF8 hfr8 hm8 r1 r2
            go_wp2_with fail
            go_roundg (gk - 1)
            case measure => omega
            case rel => exact ⟨k + 1, met8, l8, rv8, by omega, by simp, HF8.out, HFR8.out.congr (fun x => ⟨fun hx => (HTAKE.out x).2 (hx.imp id (fun e => ⟨p, by rw [e]; exact HYA.out, HPC.out⟩)), fun hx => ((HTAKE.out x).1 hx).imp id (fun ⟨q, hq, hqc⟩ => by rw [HYA.out] at hq; cases hq; rfl)⟩), (HGM.out.other HG7.out (fun k hk => by cases hk)).trans HM8.out⟩
        · have hg0 := hgt.c0
          have hg1' := hgt.c1
          have hf0 := hft.c0
          have hf1 := hft.c1
          have hfz := hft.fz
          have horc := slice_one hgt.orr
          have hgvn : wi.heap.size ≠ w1.heap.size := by omega
          have hrvn : ∀ x, grv.ownBlock = some x → W6.heap.size ≤ x := fun x hx => by
            rcases hgm.own with h | ⟨g, h, hg⟩
            · rw [h] at hx; cases hx
            · have : g = x := (by rw [h] at hx; injection hx); omega
          have HC8 := Lib.hid (front_copy hgt hf0 hf1 hfz (fun e => by have : wi.heap.size = w1.heap.size := (by injection e); omega) (fun e => by have := hrvn _ e; omega))
          have HRVN := Lib.hid hrvn
          have hkl : runes.take k = runes := List.take_of_length_le (by omega)
          rw [hkl] at hgf
          have HGFF := Lib.hid hgf
          clear hft hbl hitr hgt hgf hgm hkeep hszi hrvn hkl q1 q2 q3 HGF
          go_wp2_with fail
          go_roundg (s.size - (pos + (Utf8.decode s pos).2))
          case measure => omega
          case rel =>
            have hszi := HSI.out
            have hst : ∀ x, x ≠ w1.heap.size → ((wr.setCell ⟨w1.heap.size, 0, none⟩ (.slice (some ⟨wi.heap.size, 0, none⟩) N.length N.length)).setCell ⟨w1.heap.size, 1, none⟩ grv).heap[x]? = wr.heap[x]? := fun x hx => (setCell_block_ne _ _ _ _ hx).trans (setCell_block_ne _ _ _ _ hx)
            refine ⟨pos + (Utf8.decode s pos).2, gmet, gl, _, grv, _, (hst _ hitn).trans HITR.out, HC8.out, HGFF.out, ?_, hitn, fun e => by have : wi.heap.size = w3.heap.size := (by injection e); omega, fun e => by have := HRVN.out _ e; omega, rfl, (HBR.out.setCell (p := ⟨w1.heap.size, 0, none⟩) (by simp; omega) _).setCell (p := ⟨w1.heap.size, 1, none⟩) (by simp; omega) _⟩
            rw [← HAX.out, rnAt_cons s pos hp]
            exact (HFR.out.cons _ _).symm
    · have hnx : ∀ ty, (Instr.next (.pointer (some ⟨w3.heap.size, 0, none⟩)) true ty).run Tryz.prog wr = _ := fun ty => Lib.run_next_end_at wr w3.heap.size s pos ty hit hp
      obtain ⟨b, hb⟩ : ∃ b, met[0]? = some b := ⟨_, List.getElem?_eq_getElem (by omega)⟩
      have hm1 : wr.cell? ⟨gm, 0, none⟩ = some (.bool b) := by
        rw [hft.om.cellAt _ (by omega)]
        simp [hb]
      have hf0 := hft.c0
      have hfin : b = true ↔ Re.L r (rnAt s 0) := by
        rw [← HACC.out]
        have h1 := hfr.nil
        rw [hb] at h1
        rw [rnAt_end s pos hp] at hax
        constructor
        · intro e
          obtain ⟨x, hx, ha⟩ := hax.1 (h1.1 (by rw [e]))
          exact hx ▸ ha
        · intro ha
          have := h1.2 (hax.2 ⟨first, rfl, ha⟩)
          injection this
      have HFIN := Lib.hid hfin
      have hmpos : 0 < met.length := by omega
      clear hft hfr hax hbl hit hfin hb
      go_wp2_with fail
      go_ret
      exact ⟨HBL.out, b, rfl, HFIN.out⟩

end Go.Proofs.YtgcmjidphoklkaaGreatDoor.Rx
