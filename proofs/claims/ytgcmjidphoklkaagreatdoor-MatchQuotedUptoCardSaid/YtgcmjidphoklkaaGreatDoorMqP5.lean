/- Walks over layer 6: a matcher's Labels, Empty; a compiled list asked. -/
import Derived.Test.YtgcmjidphoklkaaGreatDoorMqK
import Derived.Test.YtgcmjidphoklkaaGreatDoorMqP3
namespace Go.Proofs.YtgcmjidphoklkaaGreatDoor.Ih
open Go.RowKit

/-- A bool is returned that tells whether P holds. -/
def SaidB (P : Prop) (e : Ending) : Prop := ∃ r : Bool, e = .returned (.bool r) ∧ (r = true ↔ P)

set_option maxRecDepth 100000 in
theorem labels_g (w : World) (b B : Nat) (m : Mat) (lb lo c : Nat) (l : List Lab) (hl : LabAt w lb lo l) (hlt : lb < w.heap.size) (hln : l.length ≤ 1000000) (hT : Lib.Utf8Tabs 0 1 w) (h2 : 2 ≤ b) (h : MtG w b m.op m.n m.v B) (hm : m.Good) :
    Calls Tryz.prog 32 #[.pointer (some ⟨b, 0, none⟩), .slice (some ⟨lb, lo, none⟩) l.length c] w (fun e w' => SaidB (HoldsG m (labGet l m.n)) e ∧ But b w w' ∧ MtG w' b m.op m.n m.v B) := by
  have c1 := h.name
  have H := Lib.hid h
  have HM := Lib.hid hm
  have HT := Lib.hid hT
  have HL := Lib.hid hl
  obtain ⟨op, n, v⟩ := m
  simp only at c1
  clear h hm hT hl
  go_enter Tryz.func32, Tryz.ntmps32
  go_wp2_with fail
  refine (get_any w lb lo c l n HL.out hlt hln).mono ?_
  rintro e w1 ⟨rfl, hb1⟩
  rw [show ((l.find? (fun x => x.1.toList == n.toList)).map (·.2)).getD ⟨#[]⟩ = labGet l n from rfl]
  have HB1 := Lib.hid hb1
  have HS1 := Lib.hid (H.out.below hb1)
  clear hb1 c1
  obtain ⟨x, hx⟩ : ∃ x, labGet l n = x := ⟨_, rfl⟩
  rw [hx]
  have HX := Lib.hid hx
  clear hx
  go_wp2_with fail
  refine (value_g w1 b B op n v x (Utf8Tabs_below HT.out HB1.out) h2 HS1.out HM.out.ok).mono ?_
  rintro e w2 ⟨⟨r, rfl, _, hr⟩, hb2, h3⟩
  have HH : Hid (SaidB (HoldsG ⟨op, n, v⟩ (labGet l n)) (.returned (.bool r))) := Lib.hid ⟨r, rfl, by rw [HX.out]; exact holds_of HM.out.right (hr HM.out.right)⟩
  have HB2 := Lib.hid ((But.of HB1.out).trans hb2 : But b w w2)
  have H3 := Lib.hid h3
  clear hb2 h3 hr
  go_wp2_with fail
  cases r <;> (go_wp2_with fail; go_ret; exact ⟨HH.out, HB2.out, H3.out⟩)

set_option maxRecDepth 100000 in
theorem empty_g (w : World) (b B : Nat) (m : Mat) (hT : Lib.Utf8Tabs 0 1 w) (h2 : 2 ≤ b) (h : MtG w b m.op m.n m.v B) (hm : m.Good) :
    Calls Tryz.prog 33 #[.pointer (some ⟨b, 0, none⟩)] w (fun e w' => SaidB (HoldsG m ⟨#[]⟩) e ∧ But b w w' ∧ MtG w' b m.op m.n m.v B) := by
  have H := Lib.hid h
  have HM := Lib.hid hm
  have HT := Lib.hid hT
  obtain ⟨op, n, v⟩ := m
  clear h hm hT
  go_enter Tryz.func33, Tryz.ntmps33
  go_wp2_with fail
  refine (value_g w b B op n v ⟨#[]⟩ HT.out h2 H.out HM.out.ok).mono ?_
  rintro e w2 ⟨⟨r, rfl, _, hr⟩, hb2, h3⟩
  have HH : Hid (SaidB (HoldsG ⟨op, n, v⟩ ⟨#[]⟩) (.returned (.bool r))) := Lib.hid ⟨r, rfl, holds_of HM.out.right (hr HM.out.right)⟩
  have HB2 := Lib.hid hb2
  have H3 := Lib.hid h3
  clear hb2 h3 hr
  go_wp2_with fail
  go_ret
  exact ⟨HH.out, HB2.out, H3.out⟩

/-- A frame: of the blocks that were there, those of a list alone may have turned. -/
structure Buts (bs : List Nat) (w w' : World) : Prop where
  os : w'.os = w.os
  tape : w'.tape = w.tape
  output : w'.output = w.output
  size : w.heap.size ≤ w'.heap.size
  block : ∀ k, k < w.heap.size → k ∉ bs → w'.heap[k]? = w.heap[k]?

theorem Buts.refl (bs : List Nat) (w : World) : Buts bs w w := ⟨rfl, rfl, rfl, Nat.le_refl _, fun _ _ _ => rfl⟩
theorem Buts.trans {bs : List Nat} {w1 w2 w3 : World} (h : Buts bs w1 w2) (k : Buts bs w2 w3) : Buts bs w1 w3 :=
  ⟨k.os.trans h.os, k.tape.trans h.tape, k.output.trans h.output, Nat.le_trans h.size k.size, fun i hi hn => (k.block i (Nat.lt_of_lt_of_le hi h.size) hn).trans (h.block i hi hn)⟩
theorem Buts.of {bs : List Nat} {b : Nat} {w w' : World} (h : But b w w') (hb : b ∈ bs) : Buts bs w w' := ⟨h.os, h.tape, h.output, h.size, fun k hk hn => h.block k hk (fun e => hn (e ▸ hb))⟩
theorem Buts.below {bs : List Nat} {w w' : World} {lo : Nat} (h : Buts bs w w') (hb : ∀ b, b ∈ bs → lo ≤ b) (hl : lo ≤ w.heap.size) : Below lo w w' :=
  ⟨h.os, h.tape, h.output, h.size, fun k hk => h.block k (by omega) (fun e => by have := hb k e; omega)⟩

/-- A compiled list, its matchers asked or not. -/
structure LsG (w : World) (xb : Nat) (v : Value) (bs : List Nat) (l : List Mat) (B : Nat) : Prop where
  cell : w.cell? ⟨xb, 0, none⟩ = some v
  own : w.ownsRow 0 23 1 v bs.length (ptrsOf bs)
  len : bs.length = l.length
  mt : ∀ (i b : Nat) (m : Mat), bs[i]? = some b → l[i]? = some m → MtG w b m.op m.n m.v B
  ne1 : ∀ b, b ∈ bs → b ≠ xb
  ne2 : ∀ b, b ∈ bs → v.ownBlock ≠ some b
  nd : bs.Nodup
  lt : xb < B
  row : ∀ g, v.ownBlock = some g → g < B
  le : B ≤ w.heap.size

theorem ownsRow_base {w : World} {base base' : Nat} {e : TypeId} {size : Nat} {v : Value} {n : Nat} {xs : List Value} (h : w.ownsRow base e size v n xs) (hb : base' ≤ base) : w.ownsRow base' e size v n xs := by
  obtain ⟨h1, h2⟩ := h
  refine ⟨h1, h2.imp id ?_⟩
  rintro ⟨g, cap, cur, a1, a2, a3⟩
  exact ⟨g, cap, cur, a1, by omega, a3⟩

theorem LsNew.toG {w : World} {xb lo : Nat} {v : Value} {bs : List Nat} {l : List Mat} (h : LsNew w xb v bs l lo) : LsG w xb v bs l w.heap.size where
  cell := h.cell
  own := ownsRow_base h.own (Nat.zero_le _)
  len := h.len
  mt := fun i b m h1 h2 => by
    obtain ⟨s, hs⟩ := h.mt i b m h1 h2
    exact MtG.fresh hs hs.lt (Nat.le_refl _)
  ne1 := h.ne1
  ne2 := h.ne2
  nd := h.nd
  lt := h.lt
  row := fun g hg => (h.own.lt g hg).2
  le := Nat.le_refl _

theorem LsG.mem_lt {w : World} {xb B : Nat} {v : Value} {bs : List Nat} {l : List Mat} (h : LsG w xb v bs l B) (b : Nat) (hb : b ∈ bs) : b < B := by
  obtain ⟨i, hi, rfl⟩ := List.getElem_of_mem hb
  have hl : i < l.length := by rw [← h.len]; exact hi
  exact (h.mt i _ _ (List.getElem?_eq_getElem hi) (List.getElem?_eq_getElem hl)).1

theorem LsG.asked {w w' : World} {xb B k b : Nat} {v : Value} {bs : List Nat} {l : List Mat} {m : Mat} (h : LsG w xb v bs l B) (hk : bs[k]? = some b) (hm : l[k]? = some m) (hb : But b w w') (hg : MtG w' b m.op m.n m.v B) : LsG w' xb v bs l B where
  cell := (hb.cell (p := ⟨xb, 0, none⟩) (Nat.lt_of_lt_of_le h.lt h.le) (fun e => h.ne1 b (List.mem_of_getElem? hk) e.symm)).trans h.cell
  own := h.own.kept (row := some b) ⟨hb.os, hb.tape, hb.output, hb.size, fun i hi hn => hb.block i hi (fun e => hn (by rw [e]))⟩ (.inr (h.ne2 b (List.mem_of_getElem? hk)))
  len := h.len
  mt := fun i c x h1 h2 => by
    by_cases hi : i = k
    · subst hi
      rw [hk] at h1; rw [hm] at h2
      cases h1; cases h2
      exact hg
    · refine (h.mt i c x h1 h2).but hb (h.mem_lt b (List.mem_of_getElem? hk)) (fun e => hi ?_)
      have hi1 := (List.getElem?_eq_some_iff.1 h1)
      have hk1 := (List.getElem?_eq_some_iff.1 hk)
      obtain ⟨a1, a2⟩ := hi1
      obtain ⟨k1, k2⟩ := hk1
      exact (List.getElem_inj h.nd).1 (by rw [a2, k2]; exact e.symm)
  ne1 := h.ne1
  ne2 := h.ne2
  nd := h.nd
  lt := h.lt
  row := h.row
  le := Nat.le_trans h.le hb.size

theorem LsG.below {w w' : World} {xb B : Nat} {v : Value} {bs : List Nat} {l : List Mat} (h : LsG w xb v bs l B) (hb : Below w.heap.size w w') : LsG w' xb v bs l B where
  cell := (hb.cell (p := ⟨xb, 0, none⟩) (Nat.lt_of_lt_of_le h.lt h.le)).trans h.cell
  own := h.own.kept (grown_below hb) (by cases v.ownBlock <;> simp)
  len := h.len
  mt := fun i c x h1 h2 => (h.mt i c x h1 h2).below hb
  ne1 := h.ne1
  ne2 := h.ne2
  nd := h.nd
  lt := h.lt
  row := h.row
  le := Nat.le_trans h.le hb.size

/-- The row's pointers. -/
theorem LsG.ptr {w : World} {xb B k b : Nat} {v : Value} {bs : List Nat} {l : List Mat} (h : LsG w xb v bs l B) (hk : bs[k]? = some b) : ∃ g cap, v = .slice (some ⟨g, 0, none⟩) bs.length cap ∧ w.cell? ⟨g, k, none⟩ = some (.pointer (some ⟨b, 0, none⟩)) := by
  have hkl := (List.getElem?_eq_some_iff.1 hk).1
  have hown := h.own
  rcases hown.2 with ⟨_, hx⟩ | ⟨g, cap, cur, hv, _⟩
  · have : bs = [] := by simpa [ptrsOf] using hx
    rw [this] at hk; simp at hk
  · refine ⟨g, cap, hv, ?_⟩
    rw [hv] at hown
    rw [hown.cellAt k (by omega)]
    simp [ptrsOf, hk]

/-- Some matcher of a list says no. -/
theorem not_all {l : List Mat} {ls : List Lab} {m : Mat} {k : Nat} (hm : l[k]? = some m) (h : ¬ HoldsG m (labGet ls m.n)) : ¬ ∀ m, m ∈ l → HoldsG m (labGet ls m.n) := fun ha => h (ha m (List.mem_of_getElem? hm))

set_option maxRecDepth 100000 in
set_option maxHeartbeats 2000000 in
theorem list_labels_g (w : World) (xb B lo' : Nat) (v : Value) (bs : List Nat) (l : List Mat) (lb lo c : Nat) (ls : List Lab) (hl : LabAt w lb lo ls) (hlt : lb < w.heap.size) (hlb : lb ∉ bs) (hln : ls.length ≤ 1000000) (hT : Lib.Utf8Tabs 0 1 w) (h2 : 2 ≤ lo') (hlo : ∀ b, b ∈ bs → lo' ≤ b) (hlw : lo' ≤ w.heap.size)
    (h : LsG w xb v bs l B) (hm : ∀ m, m ∈ l → m.Good) (hn : l.length ≤ 16) :
    Calls Tryz.prog 18 #[.pointer (some ⟨xb, 0, none⟩), .slice (some ⟨lb, lo, none⟩) ls.length c] w (fun e w' => SaidB (∀ m, m ∈ l → HoldsG m (labGet ls m.n)) e ∧ Buts bs w w' ∧ LsG w' xb v bs l B) := by
  have c0 := h.cell
  have H := Lib.hid h
  have HM := Lib.hid hm
  have HT := Lib.hid hT
  have HL := Lib.hid hl
  have HLO := Lib.hid hlo
  have HNB := Lib.hid hlb
  have hbl : bs.length = l.length := h.len
  have HBL := Lib.hid hbl
  by_cases hz : l.length = 0
  · have hl0 : l = [] := List.length_eq_zero_iff.1 hz
    have hb0 : bs = [] := List.length_eq_zero_iff.1 (by omega)
    have hv : v = .slice none 0 0 ∨ ∃ g cap, v = .slice (some ⟨g, 0, none⟩) 0 cap := by
      rcases h.own.2 with ⟨h1, _⟩ | ⟨g, cap, cur, h1, _⟩
      · exact .inl h1
      · exact .inr ⟨g, cap, by rw [h1, hb0]; rfl⟩
    subst hl0 hb0
    clear h hm hT hl hlo hlb hbl hz
    rcases hv with rfl | ⟨g, cap, rfl⟩
    all_goals
      go_enter Tryz.func18, Tryz.ntmps18
      go_wp2_with fail
      refine wp_loop_rounds 1 ?_
      rw [rounds_succ]
      go_wp2_with fail
      go_ret
      exact ⟨⟨true, rfl, by simp⟩, Buts.refl _ _, H.out⟩
  obtain ⟨b0, hb0⟩ : ∃ b0, bs[0]? = some b0 := ⟨_, List.getElem?_eq_getElem (by omega)⟩
  obtain ⟨g, cap, hv, _⟩ := h.ptr hb0
  subst hv
  rw [hbl] at c0
  clear h hm hT hl hlo hlb hbl hb0
  go_enter Tryz.func18, Tryz.ntmps18
  go_wp2_with fail
  go_loopg [14] l.length (fun gg i wr => ∃ k, k + gg = l.length ∧ i = .int .i64 k ∧ Buts bs w wr ∧ LsG wr xb (.slice (some ⟨g, 0, none⟩) bs.length cap) bs l B ∧ ∀ j m, j < k → l[j]? = some m → HoldsG m (labGet ls m.n))
  case atStart => exact ⟨0, by omega, rfl, Buts.refl _ _, H.out, fun j m hj => by omega⟩
  case round =>
    obtain ⟨k, hkg, rfl, hb, hG, hall⟩ := hrel
    have HB := Lib.hid hb
    have HG := Lib.hid hG
    have HA := Lib.hid hall
    have hsz := hb.size
    clear hb hG hall
    by_cases hlt2 : k < l.length
    · obtain ⟨m, hm⟩ : ∃ m, l[k]? = some m := ⟨_, List.getElem?_eq_getElem hlt2⟩
      obtain ⟨b, hb⟩ : ∃ b, bs[k]? = some b := ⟨_, List.getElem?_eq_getElem (by rw [HBL.out]; exact hlt2)⟩
      have hbm := List.mem_of_getElem? hb
      obtain ⟨g', cap', hv, hptr⟩ := HG.out.ptr hb
      have hgg : g = g' := by injection hv with h1; injection h1 with h1; injection h1
      rw [← hgg] at hptr
      have hw1 : IntKind.i64.wrap ((k : Int) + 1) = (k : Int) + 1 := by rw [IntKind.wrap_i64] <;> omega
      have HBk := Lib.hid hb
      have HMk := Lib.hid hm
      have hlb2 : LabAt wr lb lo ls := fun i x hx => by
        have e := HB.out.block lb hlt HNB.out
        exact ⟨(World.cell?_of_block (w := w) (a := ⟨lb, lo + i * 2, none⟩) e).trans (HL.out i x hx).1, (World.cell?_of_block (w := w) (a := ⟨lb, lo + i * 2 + 1, none⟩) e).trans (HL.out i x hx).2⟩
      have HLB := Lib.hid hlb2
      have h2b : 2 ≤ b := by have := HLO.out b hbm; omega
      have HBM := Lib.hid hbm
      clear hb hm hv hgg hlb2 hbm
      go_wp2_with fail
      refine (labels_g wr b B m lb lo c ls HLB.out (by omega) hln (tabs_keep HT.out (fun i hi => HB.out.block i (by omega) (fun e => by have := HLO.out i e; omega))) h2b (HG.out.mt k b m HBk.out HMk.out) (HM.out m (List.mem_of_getElem? HMk.out))).mono ?_
      rintro e w2 ⟨⟨r, rfl, hr⟩, hb2, hm2⟩
      have HR := Lib.hid hr
      have HB2 := Lib.hid (HB.out.trans (.of hb2 HBM.out))
      have HG2 := Lib.hid (HG.out.asked HBk.out HMk.out hb2 hm2)
      clear hb2 hm2 hr hptr
      cases r with
      | true =>
        have HY : Hid (HoldsG m (labGet ls m.n)) := HR.out.1 rfl
        clear HR
        go_wp2_with fail
        go_roundg (gk - 1)
        case measure => omega
        case rel =>
          refine ⟨k + 1, by omega, by simp, HB2.out, HG2.out, fun j x hj hx => ?_⟩
          by_cases hjk : j = k
          · subst hjk
            rw [HMk.out] at hx
            cases hx
            exact HY.out
          · exact HA.out j x (by omega) hx
      | false =>
        have HN : Hid (¬ HoldsG m (labGet ls m.n)) := fun hh => by have := HR.out.2 hh; cases this
        clear HR
        go_wp2_with fail
        go_ret
        exact ⟨⟨false, rfl, by simpa using not_all HMk.out HN.out⟩, HB2.out, HG2.out⟩
    · obtain rfl : gk = 0 := by omega
      go_wp2_with fail
      go_ret
      refine ⟨⟨true, rfl, by simp; intro m hmm; obtain ⟨j, hj, rfl⟩ := List.getElem_of_mem hmm; exact HA.out j _ (by omega) (List.getElem?_eq_getElem hj)⟩, HB.out, HG.out⟩

set_option maxRecDepth 100000 in
set_option maxHeartbeats 2000000 in
theorem list_some_g (w : World) (xb B lo' : Nat) (v : Value) (bs : List Nat) (l : List Mat) (hT : Lib.Utf8Tabs 0 1 w) (h2 : 2 ≤ lo') (hlo : ∀ b, b ∈ bs → lo' ≤ b) (hlw : lo' ≤ w.heap.size)
    (h : LsG w xb v bs l B) (hm : ∀ m, m ∈ l → m.Good) (hn : l.length ≤ 16) (hz : l.length ≠ 0) :
    Calls Tryz.prog 19 #[.pointer (some ⟨xb, 0, none⟩)] w (fun e w' => SaidB (∃ m, m ∈ l ∧ ¬ HoldsG m ⟨#[]⟩) e ∧ Buts bs w w' ∧ LsG w' xb v bs l B) := by
  have c0 := h.cell
  have H := Lib.hid h
  have HM := Lib.hid hm
  have HT := Lib.hid hT
  have HLO := Lib.hid hlo
  have hbl : bs.length = l.length := h.len
  have HBL := Lib.hid hbl
  obtain ⟨b0, hb0⟩ : ∃ b0, bs[0]? = some b0 := ⟨_, List.getElem?_eq_getElem (by omega)⟩
  obtain ⟨g, cap, hv, _⟩ := h.ptr hb0
  subst hv
  rw [hbl] at c0
  clear h hm hT hlo hbl hb0
  go_enter Tryz.func19, Tryz.ntmps19
  go_wp2_with fail
  go_loopg [12] l.length (fun gg i wr => ∃ k, k + gg = l.length ∧ i = .int .i64 k ∧ Buts bs w wr ∧ LsG wr xb (.slice (some ⟨g, 0, none⟩) bs.length cap) bs l B ∧ ∀ j m, j < k → l[j]? = some m → HoldsG m ⟨#[]⟩)
  case atStart => exact ⟨0, by omega, rfl, Buts.refl _ _, H.out, fun j m hj => by omega⟩
  case round =>
    obtain ⟨k, hkg, rfl, hb, hG, hall⟩ := hrel
    have HB := Lib.hid hb
    have HG := Lib.hid hG
    have HA := Lib.hid hall
    have hsz := hb.size
    clear hb hG hall
    by_cases hlt2 : k < l.length
    · obtain ⟨m, hm⟩ : ∃ m, l[k]? = some m := ⟨_, List.getElem?_eq_getElem hlt2⟩
      obtain ⟨b, hb⟩ : ∃ b, bs[k]? = some b := ⟨_, List.getElem?_eq_getElem (by rw [HBL.out]; exact hlt2)⟩
      have hbm := List.mem_of_getElem? hb
      obtain ⟨g', cap', hv, hptr⟩ := HG.out.ptr hb
      have hgg : g = g' := by injection hv with h1; injection h1 with h1; injection h1
      rw [← hgg] at hptr
      have hw1 : IntKind.i64.wrap ((k : Int) + 1) = (k : Int) + 1 := by rw [IntKind.wrap_i64] <;> omega
      have HBk := Lib.hid hb
      have HMk := Lib.hid hm
      have h2b : 2 ≤ b := by have := HLO.out b hbm; omega
      have HBM := Lib.hid hbm
      clear hb hm hv hgg hbm
      go_wp2_with fail
      refine (empty_g wr b B m (tabs_keep HT.out (fun i hi => HB.out.block i (by omega) (fun e => by have := HLO.out i e; omega))) h2b (HG.out.mt k b m HBk.out HMk.out) (HM.out m (List.mem_of_getElem? HMk.out))).mono ?_
      rintro e w2 ⟨⟨r, rfl, hr⟩, hb2, hm2⟩
      have HR := Lib.hid hr
      have HB2 := Lib.hid (HB.out.trans (.of hb2 HBM.out))
      have HG2 := Lib.hid (HG.out.asked HBk.out HMk.out hb2 hm2)
      clear hb2 hm2 hr hptr
      cases r with
      | true =>
        have HY : Hid (HoldsG m ⟨#[]⟩) := HR.out.1 rfl
        clear HR
        go_wp2_with fail
        go_roundg (gk - 1)
        case measure => omega
        case rel =>
          refine ⟨k + 1, by omega, by simp, HB2.out, HG2.out, fun j x hj hx => ?_⟩
          by_cases hjk : j = k
          · subst hjk
            rw [HMk.out] at hx
            cases hx
            exact HY.out
          · exact HA.out j x (by omega) hx
      | false =>
        have HN : Hid (¬ HoldsG m ⟨#[]⟩) := fun hh => by have := HR.out.2 hh; cases this
        clear HR
        go_wp2_with fail
        go_ret
        exact ⟨⟨true, rfl, ⟨fun _ => ⟨m, List.mem_of_getElem? HMk.out, HN.out⟩, fun _ => rfl⟩⟩, HB2.out, HG2.out⟩
    · obtain rfl : gk = 0 := by omega
      go_wp2_with fail
      go_ret
      refine ⟨⟨false, rfl, ⟨fun h => (by cases h), fun ⟨m, hmm, hn⟩ => ?_⟩⟩, HB.out, HG.out⟩
      obtain ⟨j, hj, rfl⟩ := List.getElem_of_mem hmm
      exact absurd (HA.out j _ (by omega) (List.getElem?_eq_getElem hj)) hn

theorem list_len_g (w : World) (xb B : Nat) (v : Value) (bs : List Nat) (l : List Mat) (h : LsG w xb v bs l B) (hz : l.length ≠ 0) :
    Calls Tryz.prog 20 #[.pointer (some ⟨xb, 0, none⟩)] w (fun e w' => e = .returned (.int .i64 l.length) ∧ w' = w) := by
  have c0 := h.cell
  have hbl : bs.length = l.length := h.len
  obtain ⟨b0, hb0⟩ : ∃ b0, bs[0]? = some b0 := ⟨_, List.getElem?_eq_getElem (by omega)⟩
  obtain ⟨g, cap, hv, _⟩ := h.ptr hb0
  subst hv
  rw [hbl] at c0
  clear h hbl hb0
  go_enter Tryz.func20, Tryz.ntmps20
  go_wp2_with fail
  go_ret
  exact ⟨rfl, rfl⟩

end Go.Proofs.YtgcmjidphoklkaaGreatDoor.Ih

/- Walks over layer 6's law: what must come of fixed calls. -/
namespace Go.Proofs.YtgcmjidphoklkaaGreatDoor.Ih
open Go.RowKit Rx

def mT : List Mat := [⟨3, bJob, bAB⟩, ⟨2, bX, ⟨#[]⟩⟩]
def reAB : Re := .fork (.row [.one (fun x => x == 97) (some 97)]) (.row [.one (fun x => x == 98) (some 98)])
theorem compAB : compileP bAB = .ok reAB := by rfl
theorem lenAB : LenOk bAB := by
  intro r h
  rw [compAB] at h
  cases h
  decide +kernel
theorem right1 : rightP 3 bJob bAB = 0 := by rfl
theorem right2 : rightP 2 bX ⟨#[]⟩ = 0 := by rfl

theorem good_mT : ∀ m, m ∈ mT → m.Good := by
  intro m hm
  simp only [mT, List.mem_cons, List.not_mem_nil, or_false] at hm
  rcases hm with rfl | rfl
  · exact ⟨⟨by decide, by decide, fun _ => lenAB⟩, right1⟩
  · exact ⟨⟨by decide, by decide, fun h => absurd h (by decide)⟩, right2⟩

theorem size_bT : ¬ 65536 < bT.size := by decide

set_option maxRecDepth 100000 in
theorem parse_awake (w : World) (hT : Lib.Utf8Tabs 0 1 w) (h2 : 2 ≤ w.heap.size) :
    Calls Tryz.prog 16 #[.string bT] w (fun e w' => ∃ gb cap, e = .returned (.tuple #[.slice (some ⟨gb, 0, none⟩) 2 cap, .int .i64 0, .int .i64 0]) ∧ Below w.heap.size w w' ∧ MatAt w' gb 0 mT ∧ w.heap.size ≤ gb ∧ gb < w'.heap.size) := by
  have hs : (bT.size : Int) ≤ 65536 := by decide
  have HC := Lib.hid (read_awake w)
  have HT := Lib.hid hT
  clear hT
  generalize bT = t at *
  go_enter Tryz.func16, Tryz.ntmps16
  go_wp2_with fail
  refine HC.out.mono ?_
  rintro e w1 ⟨gb, cap, rfl, hb, hm, hg1, hg2⟩
  have HB := Lib.hid hb
  have HM : Hid (MatAt w1 gb 0 mT) := Lib.hid hm
  have hz := hb.size
  clear hb hm HC
  go_wp2_with fail
  refine (rights_g w1 gb 0 cap mT (Utf8Tabs_below HT.out HB.out) (by omega) HM.out hg2 (by decide) good_mT).mono ?_
  rintro e w2 ⟨rfl, hb2⟩
  have HB2 := Lib.hid (HB.out.trans (hb2.mono hz))
  have HM2 := Lib.hid (HM.out.below hb2 hg2)
  have hz2 := hb2.size
  clear hb2
  go_wp2_with fail
  go_ret3
  exact ⟨gb, cap, rfl, HB2.out, HM2.out, hg1, by omega⟩

def lA : ByteArray := ⟨#[97]⟩
def l1 : ByteArray := ⟨#[49]⟩
def ls2 : List Lab := [(bJob, lA), (bX, l1)]
def ls1 : List Lab := [(bJob, lA)]

theorem rnA : rnAt lA 0 = [97] := by rfl
theorem rnE : rnAt ⟨#[]⟩ 0 = [] := by rfl

theorem holdsA : HoldsG ⟨3, bJob, bAB⟩ lA := by
  refine ⟨fun h => absurd h (by decide), fun _ => ⟨reAB, compAB, ?_⟩, fun h => absurd h (by decide)⟩
  rw [rnA]
  exact .inl ⟨[97], [], rfl, ⟨97, rfl, rfl⟩, rfl⟩

theorem not_holdsE : ¬ HoldsG ⟨3, bJob, bAB⟩ ⟨#[]⟩ := by
  intro h
  obtain ⟨q, hq, hl⟩ := h.2.1 rfl
  rw [compAB] at hq
  cases hq
  rw [rnE] at hl
  rcases hl with ⟨a, b, hab, ⟨c, hc, _⟩, _⟩ | ⟨a, b, hab, ⟨c, hc, _⟩, _⟩
  · rw [hc] at hab; cases hab
  · rw [hc] at hab; cases hab

theorem all2 : ∀ m, m ∈ mT → HoldsG m (labGet ls2 m.n) := by
  intro m hm
  simp only [mT, List.mem_cons, List.not_mem_nil, or_false] at hm
  rcases hm with rfl | rfl
  · have e : labGet ls2 bJob = lA := by simp [labGet, ls2, Lib.toList_data, bJob, bX]
    show HoldsG _ (labGet ls2 bJob)
    rw [e]; exact holdsA
  · have e : labGet ls2 bX = l1 := by simp [labGet, ls2, Lib.toList_data, bJob, bX]
    show HoldsG _ (labGet ls2 bX)
    rw [e]
    exact ⟨fun _ => by simp [Lib.toList_data, l1], fun h => absurd h (by decide), fun h => absurd h (by decide)⟩

theorem not_all1 : ¬ ∀ m, m ∈ mT → HoldsG m (labGet ls1 m.n) := by
  intro h
  have h2 := (h ⟨2, bX, ⟨#[]⟩⟩ (by simp [mT])).1 (by decide)
  have e : labGet ls1 bX = ⟨#[]⟩ := by simp [labGet, ls1, Lib.toList_data, bJob, bX]
  rw [e] at h2
  simp [Lib.toList_data] at h2

theorem some_mT : ∃ m, m ∈ mT ∧ ¬ HoldsG m ⟨#[]⟩ := ⟨_, by simp [mT], not_holdsE⟩

end Go.Proofs.YtgcmjidphoklkaaGreatDoor.Ih

/- Walk over layer 6's law: awake. -/
namespace Go.Proofs.YtgcmjidphoklkaaGreatDoor.Ih
open Go.RowKit Rx

theorem labs2 (X : World) : LabAt (X.alloc (.cells #[.string bJob, .string lA, .string bX, .string l1] 67)) X.heap.size 0 ls2 := by
  intro i x hx
  match i with
  | 0 => simp [ls2] at hx; subst hx; exact ⟨by simp, by simp⟩
  | 1 => simp [ls2] at hx; subst hx; exact ⟨by simp, by simp⟩
  | (k + 2) => simp [ls2] at hx
theorem labs1 (X : World) : LabAt (X.alloc (.cells #[.string bJob, .string lA] 67)) X.heap.size 0 ls1 := by
  intro i x hx
  match i with
  | 0 => simp [ls1] at hx; subst hx; exact ⟨by simp, by simp⟩
  | (k + 1) => simp [ls1] at hx

set_option maxRecDepth 100000 in
set_option maxHeartbeats 4000000 in
theorem awake_any (w : World) (hT : Lib.Utf8Tabs 0 1 w) (h2 : 2 ≤ w.heap.size) :
    Calls Tryz.prog 7 #[] w (fun e w' => e = .returned (.bool true) ∧ Below w.heap.size w w') := by
  have HT := Lib.hid hT
  clear hT
  go_enter Tryz.func7, Tryz.ntmps7
  go_wp2_with fail
  refine (parse_awake w HT.out h2).mono ?_
  rintro e w1 ⟨gb, cap, rfl, hb1, hm1, hg1, hg2⟩
  have HB1 := Lib.hid hb1
  have HM1 := Lib.hid hm1
  have hz1 := hb1.size
  clear hb1 hm1
  go_wp2_with fail
  refine (compile_g w1 gb 0 cap mT (Utf8Tabs_below HT.out HB1.out) (by omega) HM1.out hg2 (by decide) good_mT).mono ?_
  rintro e w2 ⟨xb, v, bs, rfl, hb2, hls⟩
  have HB2 := Lib.hid (HB1.out.trans (hb2.mono hz1))
  have hz2 := hb2.size
  have HL2 := Lib.hid (hls.toG)
  have HLO : Hid (∀ b, b ∈ bs → w.heap.size ≤ b) := Lib.hid (fun b hb => Nat.le_trans hz1 (hls.lo2 b hb))
  have HLT : Hid (∀ b, b ∈ bs → b < w2.heap.size) := Lib.hid (fun b hb => hls.mem_lt b hb)
  clear hb2 hls HM1
  generalize hBe : w2.heap.size = B at *
  have HN : Hid (∀ X, X = w2.alloc (.cells #[.string bJob, .string lA, .string bX, .string l1] 67) → Below B w2 X ∧ X.heap.size = B + 1 ∧ LabAt X B 0 ls2) := by
    rintro X rfl
    rw [← hBe]
    exact ⟨(Below.refl _ _).alloc (Nat.le_refl _) _, by simp, labs2 w2⟩
  go_wp2_with fail
  generalize hXe : w2.alloc (.cells #[.string ⟨#[106, 111, 98]⟩, .string ⟨#[97]⟩, .string ⟨#[120]⟩, .string ⟨#[49]⟩] 67) = X at *
  obtain ⟨hbX, hsX, hlX⟩ := HN.out X hXe.symm
  have HBX := Lib.hid (HB2.out.trans (hbX.mono (by omega)))
  have HLX := Lib.hid (HL2.out.below (by rw [hBe]; exact hbX))
  have HLA := Lib.hid hlX
  clear HN hXe hbX hlX HL2 HB2
  refine (list_labels_g X xb B w.heap.size v bs mT B 0 2 ls2 HLA.out (by omega) (fun h => by have := HLT.out B h; omega) (by decide) (Utf8Tabs_below HT.out HBX.out) h2 HLO.out (by omega) HLX.out good_mT (by decide)).mono ?_
  rintro e w3 ⟨⟨r, rfl, hr⟩, hb3, hl3⟩
  obtain rfl : r = true := hr.2 all2
  have HB3 := Lib.hid (HBX.out.trans (hb3.below HLO.out (by omega)))
  have HL3 := Lib.hid hl3
  have hz3 := hb3.size
  clear hb3 hl3 hr HBX HLX HLA
  have HN : Hid (∀ Y, Y = w3.alloc (.cells #[.string bJob, .string lA] 67) → Below w3.heap.size w3 Y ∧ Y.heap.size = w3.heap.size + 1 ∧ LabAt Y w3.heap.size 0 ls1) := by
    rintro Y rfl
    exact ⟨(Below.refl _ _).alloc (Nat.le_refl _) _, by simp, labs1 w3⟩
  go_wp2_with fail
  generalize hYe : w3.alloc (.cells #[.string ⟨#[106, 111, 98]⟩, .string ⟨#[97]⟩] 67) = Y at *
  obtain ⟨hbY, hsY, hlY⟩ := HN.out Y hYe.symm
  have HBY := Lib.hid (HB3.out.trans (hbY.mono (by omega)))
  have HLY := Lib.hid (HL3.out.below hbY)
  have HLA := Lib.hid hlY
  clear HN hYe hbY hlY HL3 HB3
  generalize hCe : w3.heap.size = C at *
  refine (list_labels_g Y xb B w.heap.size v bs mT C 0 1 ls1 HLA.out (by omega) (fun h => by have := HLT.out C h; omega) (by decide) (Utf8Tabs_below HT.out HBY.out) h2 HLO.out (by omega) HLY.out good_mT (by decide)).mono ?_
  rintro e w4 ⟨⟨r, rfl, hr⟩, hb4, hl4⟩
  obtain rfl : r = false := by
    cases r with
    | false => rfl
    | true => exact absurd (hr.1 rfl) not_all1
  have HB4 := Lib.hid (HBY.out.trans (hb4.below HLO.out (by omega)))
  have HL4 := Lib.hid hl4
  have hz4 := hb4.size
  clear hb4 hl4 hr HBY HLY HLA
  go_wp2_with fail
  refine (list_some_g w4 xb B w.heap.size v bs mT (Utf8Tabs_below HT.out HB4.out) h2 HLO.out (by omega) HL4.out good_mT (by decide) (by decide)).mono ?_
  rintro e w5 ⟨⟨r, rfl, hr⟩, hb5, hl5⟩
  obtain rfl : r = true := hr.2 some_mT
  have HB5 := Lib.hid (HB4.out.trans (hb5.below HLO.out (by omega)))
  have HL5 := Lib.hid hl5
  clear hb5 hl5 hr HB4 HL4
  go_wp2_with fail
  refine (list_len_g w5 xb B v bs mT HL5.out (by decide)).mono ?_
  rintro e w6 ⟨rfl, rfl⟩
  rw [show ((mT.length : Nat) : Int) = 2 from rfl]
  go_wp2_with fail
  go_ret
  exact ⟨rfl, HB5.out⟩

end Go.Proofs.YtgcmjidphoklkaaGreatDoor.Ih

/- Walk over layer 6's law MatchQuoted. -/
namespace Go.Proofs.YtgcmjidphoklkaaGreatDoor.Ih
open Go.RowKit Rx

theorem quote_lenOk {q : ByteArray} {u : List Int} (hu : ∀ c, c ∈ u → Scalar c) (hq : q.data.toList = quoteL u) : LenOk q := by
  intro r hr
  have h256 := (compileP_ok hr).1
  rw [compile_quoted h256 hu hq] at hr
  cases hr
  have h1 := graph_ones u
  have h2 := quote_len u hu
  have h3 := size_list q
  rw [hq] at h3
  omega

theorem quoted_says {q : ByteArray} {u : List Int} {n x : ByteArray} {r : Bool} (hu : ∀ c, c ∈ u → Scalar c) (hq : q.data.toList = quoteL u) (h0 : rightP 3 n q = 0) (h : SaidG 3 q x r) : r = true ↔ rnAt x 0 = u := by
  have hw : wrongP 3 n q = 0 := by
    unfold rightP at h0
    by_cases hh : wrongP 3 n q = 0
    · exact hh
    · rw [if_neg hh] at h0; exact absurd h0 hh
  obtain ⟨_, _, _, _, h256⟩ := wrongP_ok hw
  have hc := compile_quoted h256 hu hq
  have h1 := h.2 (by decide)
  have e : ((r != ((3 : Int) == 4)) = true ↔ r = true) := by cases r <;> decide
  refine (e.symm.trans h1).trans ⟨fun ⟨p, hp, hl⟩ => ?_, fun hx => ⟨_, hc, (L_row_ones u _).2 hx⟩⟩
  rw [hc] at hp
  cases hp
  exact (L_row_ones u _).1 hl

theorem plain_says {v x : ByteArray} {r : Bool} (h : SaidG 1 v x r) : r = (x.toList == v.toList) := by
  have h1 := h.1 (by decide)
  rw [h1]
  cases (x.toList == v.toList) <;> rfl

theorem valid_of {n v : ByteArray} (h0 : rightP 1 n v = 0) : Lib.validD v.data.toList = true := by
  have hw : wrongP 1 n v = 0 := by
    unfold rightP at h0
    by_cases hh : wrongP 1 n v = 0
    · exact hh
    · rw [if_neg hh] at h0; exact absurd h0 hh
  exact (wrongP_ok hw).2.2.2.1

/-- What the law holds side by side. -/
theorem quoted_same {q value v : ByteArray} {u : List Int} {n : ByteArray} {r1 r2 : Bool} (hval : rnAt value 0 = u) (hu : ∀ c, c ∈ u → Scalar c) (hq : q.data.toList = quoteL u) (hx : rightP 3 n q = 0) (hy : rightP 1 n value = 0) (hz : rightP 1 n v = 0) (h1 : SaidG 3 q v r1) (h2 : SaidG 1 value v r2) : r1 = r2 := by
  have e1 := quoted_says hu hq hx h1
  have e2 := plain_says h2
  have ev := vd_zero (valid_of hz)
  have ew := vd_zero (valid_of hy)
  have e3 : r2 = true ↔ rnAt v 0 = u := by
    rw [e2, beq_iff_eq, Lib.toList_data, Lib.toList_data]
    refine ⟨fun h => ?_, fun h => ?_⟩
    · rw [text_eq h]; exact hval
    · rw [← ev, ← ew, h, hval]
  cases r1 <;> cases r2 <;> simp_all

set_option maxRecDepth 100000 in
set_option maxHeartbeats 4000000 in
theorem law_quoted (w : World) (name value v : ByteArray) (hT : Lib.Utf8Tabs 0 1 w) (h2 : 2 ≤ w.heap.size) (hn : name.size ≤ 1048576) (hvl : value.size ≤ 1048576) (hv : v.size ≤ 1048576) :
    Calls Tryz.prog 3 #[.string name, .string value, .string v] w (fun e w' => e = .returned (.bool true) ∧ Below w.heap.size w w') := by
  have HT := Lib.hid hT
  clear hT
  go_enter Tryz.func3, Tryz.ntmps3
  go_wp2_with fail
  refine (quote_any w value hvl).mono ?_
  rintro e w1 ⟨rfl, hb1⟩
  have HB1 := Lib.hid hb1
  have hz1 := hb1.size
  have hql : (⟨(quoteL (rnAt value 0)).toArray⟩ : ByteArray).data.toList = quoteL (rnAt value 0) := rfl
  have hsc := rnAt_scalar value
  have hqs : (⟨(quoteL (rnAt value 0)).toArray⟩ : ByteArray).size ≤ 140737488355328 := by
    rw [size_list, hql]
    have a1 := quote_len5 (rnAt value 0)
    have a2 : (rnAt value 0).length ≤ value.size := rnF_len value _ _
    omega
  have HSC := Lib.hid hsc
  have HQL := Lib.hid hql
  clear hb1 hsc hql
  generalize hu : rnAt value 0 = u at *
  have HU := Lib.hid hu
  clear hu
  generalize hqe : (⟨(quoteL u).toArray⟩ : ByteArray) = q at *
  clear hqe
  have hok3 : GOk 3 name q := ⟨by omega, hqs, fun _ => quote_lenOk HSC.out HQL.out⟩
  have hok1 : GOk 1 name value := ⟨by omega, by omega, fun h => absurd h (by decide)⟩
  have hok2 : GOk 1 name v := ⟨by omega, by omega, fun h => absurd h (by decide)⟩
  have HO3 := Lib.hid hok3
  have HO1 := Lib.hid hok1
  have HO2 := Lib.hid hok2
  clear hok3 hok1 hok2
  go_wp2_with fail
  refine (new_any w1 3 name q).mono ?_
  rintro e w2 ⟨bx, rfl, hbx, hb2, says, hmx⟩
  have HB2 := Lib.hid (HB1.out.trans (hb2.mono hz1))
  have HMX := Lib.hid hmx
  have hz2 := hb2.size
  have hlx := hmx.lt
  clear hb2 hmx
  go_wp2_with fail
  refine (new_any w2 1 name value).mono ?_
  rintro e w3 ⟨by', rfl, hby, hb3, says', hmy⟩
  have HB3 := Lib.hid (HB2.out.trans (hb3.mono (by omega)))
  have hz3 := hb3.size
  have hly := hmy.lt
  have HX3 : Hid (MtG w3 bx 3 name q w3.heap.size) := Lib.hid (MtG.fresh (HMX.out.like (hb3.block bx hlx) hz3) (by omega) (Nat.le_refl _))
  have HY3 : Hid (MtG w3 by' 1 name value w3.heap.size) := Lib.hid (MtG.fresh hmy (by omega) (Nat.le_refl _))
  clear hb3 hmy HMX
  generalize hBe : w3.heap.size = B at *
  have HAW : Hid (∀ w4, Below w.heap.size w w4 → Calls Tryz.prog 7 #[] w4 (fun e w' => e = .returned (.bool true) ∧ Below w.heap.size w w')) := fun w4 hb => by
    refine (awake_any w4 (Utf8Tabs_below HT.out hb) (by have := hb.size; omega)).mono ?_
    rintro e w5 ⟨rfl, hb5⟩
    exact ⟨rfl, hb.trans (hb5.mono hb.size)⟩
  obtain ⟨px, hpx⟩ : ∃ p, rightP 3 name q = p := ⟨_, rfl⟩
  obtain ⟨py, hpy⟩ : ∃ p, rightP 1 name value = p := ⟨_, rfl⟩
  obtain ⟨pz, hpz⟩ : ∃ p, rightP 1 name v = p := ⟨_, rfl⟩
  have HPX := Lib.hid hpx
  have HPY := Lib.hid hpy
  have HPZ := Lib.hid hpz
  clear hpx hpy hpz
  go_wp2_with fail
  refine (right_g w3 bx B 3 name q (Utf8Tabs_below HT.out HB3.out) (by omega) HX3.out HO3.out).mono ?_
  rintro e w4 ⟨rfl, hb4, f, hm4, hs4⟩
  rw [HPX.out]
  have HB4 := Lib.hid (HB3.out.trans (hb4.below (B := w.heap.size) (by omega) (by omega)))
  have HX4 : Hid (MtG w4 bx 3 name q B) := Lib.hid (MtG.done (by omega) (by have := hb4.size; omega) hm4 hs4)
  have HY4 := Lib.hid (HY3.out.but hb4 (by omega) (by omega))
  clear hb4 hm4 hs4 HX3 HY3
  by_cases hx0 : px = 0
  · subst hx0
    go_wp2_with fail
    refine (right_g w4 by' B 1 name value (Utf8Tabs_below HT.out HB4.out) (by omega) HY4.out HO1.out).mono ?_
    rintro e w5 ⟨rfl, hb5, f, hm5, hs5⟩
    rw [HPY.out]
    have hz5 := hb5.size
    have HB5 := Lib.hid (HB4.out.trans (hb5.below (B := w.heap.size) (by omega) (by have := HB4.out.size; omega)))
    have HY5 : Hid (MtG w5 by' 1 name value B) := Lib.hid (MtG.done (by omega) (by have := HX4.out.2.1; omega) hm5 hs5)
    have HX5 := Lib.hid (HX4.out.but hb5 (by omega) (by omega))
    clear hb5 hm5 hs5 HX4 HY4
    by_cases hy0 : py = 0
    · subst hy0
      go_wp2_with fail
      refine (new_any w5 1 name v).mono ?_
      rintro e w6 ⟨bz, rfl, hbz, hb6, says6, hmz⟩
      have hz6 := hb6.size
      have HZ6 : Hid (MtG w6 bz 1 name v w6.heap.size) := Lib.hid (MtG.fresh hmz hmz.lt (Nat.le_refl _))
      have HB6 := Lib.hid hb6
      have hw5 : w.heap.size ≤ w5.heap.size := HB5.out.size
      clear hb6 hmz
      go_wp2_with fail
      refine (right_g w6 bz w6.heap.size 1 name v (Utf8Tabs_below HT.out (HB5.out.trans (HB6.out.mono hw5))) (by omega) HZ6.out HO2.out).mono ?_
      rintro e w7 ⟨rfl, hb7, _⟩
      rw [HPZ.out]
      have hb57 : Below w5.heap.size w5 w7 := HB6.out.trans (hb7.below (by omega) (by omega))
      have HB7 := Lib.hid (HB5.out.trans (hb57.mono hw5))
      have HX7 := Lib.hid (HX5.out.below hb57)
      have HY7 := Lib.hid (HY5.out.below hb57)
      clear hb7 hb57 HX5 HY5 HZ6
      by_cases hz0 : pz = 0
      · subst hz0
        go_wp2_with fail
        refine (value_g w7 bx B 3 name q v (Utf8Tabs_below HT.out HB7.out) (by omega) HX7.out HO3.out).mono ?_
        rintro e w8 ⟨⟨r1, rfl, _, hr1⟩, hb8, hm8⟩
        have HB8 := Lib.hid (HB7.out.trans (hb8.below (B := w.heap.size) (by omega) (by have := HB7.out.size; omega)))
        have HX8 := Lib.hid hm8
        have HY8 := Lib.hid (HY7.out.but hb8 (by omega) (by omega))
        have HR1 := Lib.hid (hr1 HPX.out)
        clear hb8 hm8 hr1 HX7 HY7
        go_wp2_with fail
        refine (value_g w8 by' B 1 name value v (Utf8Tabs_below HT.out HB8.out) (by omega) HY8.out HO1.out).mono ?_
        rintro e w9 ⟨⟨r2, rfl, _, hr2⟩, hb9, hm9⟩
        obtain rfl : r1 = r2 := quoted_same HU.out HSC.out HQL.out HPX.out HPY.out HPZ.out HR1.out (hr2 HPY.out)
        have HB9 := Lib.hid (HB8.out.trans (hb9.below (B := w.heap.size) (by omega) (by have := HB8.out.size; omega)))
        have HX9 := Lib.hid (HX8.out.but hb9 (by omega) (by omega))
        clear hb9 hm9 hr2 HX8 HY8 HR1
        have hrr : (r1 == r1) = true := by cases r1 <;> rfl
        go_wp2_with fail
        refine (value_g w9 bx B 3 name q value (Utf8Tabs_below HT.out HB9.out) (by omega) HX9.out HO3.out).mono ?_
        rintro e w10 ⟨⟨r3, rfl, _, hr3⟩, hb10, hm10⟩
        obtain rfl : r3 = true := (quoted_says HSC.out HQL.out HPX.out (hr3 HPX.out)).2 HU.out
        have HB10 := Lib.hid (HB9.out.trans (hb10.below (B := w.heap.size) (by omega) (by have := HB9.out.size; omega)))
        clear hb10 hm10 hr3 HX9
        go_wp2_with fail
        refine (HAW.out w10 HB10.out).mono ?_
        rintro e w11 ⟨rfl, hb11⟩
        have HB11 := Lib.hid hb11
        clear hb11
        go_wp2_with fail
        go_ret
        exact ⟨rfl, HB11.out⟩
      · have hzb : (pz == 0) = false := beq_eq_false_iff_ne.2 hz0
        go_wp2_with fail
        refine (HAW.out w7 HB7.out).mono ?_
        rintro e w11 ⟨rfl, hb11⟩
        have HB11 := Lib.hid hb11
        clear hb11
        go_wp2_with fail
        go_ret
        exact ⟨rfl, HB11.out⟩
    · have hyb : (py == 0) = false := beq_eq_false_iff_ne.2 hy0
      go_wp2_with fail
      refine (HAW.out w5 HB5.out).mono ?_
      rintro e w11 ⟨rfl, hb11⟩
      have HB11 := Lib.hid hb11
      clear hb11
      go_wp2_with fail
      go_ret
      exact ⟨rfl, HB11.out⟩
  · have hxb : (px == 0) = false := beq_eq_false_iff_ne.2 hx0
    go_wp2_with fail
    refine (HAW.out w4 HB4.out).mono ?_
    rintro e w11 ⟨rfl, hb11⟩
    have HB11 := Lib.hid hb11
    clear hb11
    go_wp2_with fail
    go_ret
    exact ⟨rfl, HB11.out⟩

end Go.Proofs.YtgcmjidphoklkaaGreatDoor.Ih
