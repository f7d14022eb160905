/- Walks over layer 6: a matcher's Labels, Empty; a compiled list asked. -/
import Derived.Test.YteemciknbiloiaaGreatDoorEqK
namespace Go.Proofs.YteemciknbiloiaaGreatDoor.Ih
open Go.RowKit

/-- A bool is returned that tells whether P holds. -/
def SaidB (P : Prop) (e : Ending) : Prop := ∃ r : Bool, e = .returned (.bool r) ∧ (r = true ↔ P)

set_option maxRecDepth 100000 in
theorem labels_g (w : World) (b B : Nat) (m : Mat) (lb lo c : Nat) (l : List Lab) (hl : LabAt w lb lo l) (hlt : lb < w.heap.size) (hln : l.length ≤ 1000000) (hT : Lib.Utf8Tabs 0 1 w) (h2 : 2 ≤ b) (h : MtG w b m.op m.n m.v B) (hm : m.Good) :
    Calls Tryz.prog 61 #[.pointer (some ⟨b, 0, none⟩), .slice (some ⟨lb, lo, none⟩) l.length c] w (fun e w' => SaidB (HoldsG m (labGet l m.n)) e ∧ But b w w' ∧ MtG w' b m.op m.n m.v B) := by
  have c1 := h.name
  have H := Lib.hid h
  have HM := Lib.hid hm
  have HT := Lib.hid hT
  have HL := Lib.hid hl
  obtain ⟨op, n, v⟩ := m
  simp only at c1
  clear h hm hT hl
  go_enter Tryz.func61, Tryz.ntmps61
  go_wp2_with fail
  refine (get_any w lb lo c l n HL.out hlt hln).mono ?_
  rintro e w1 ⟨rfl, hb1⟩
  rw [show ((l.find? (fun x => x.1.toList == n.toList)).map (·.2)).getD ⟨#[]⟩ = labGet l n from rfl]
  have HB1 := Lib.hid hb1
  have HS1 := Lib.hid (H.out.below hb1)
  clear hb1 c1
  obtain ⟨x, hx⟩ : ∃ x, labGet l n = x := ⟨_, rfl⟩
  rw [hx]
  have HX := Lib.hid hx
  clear hx
  go_wp2_with fail
  refine (value_g w1 b B op n v x (Utf8Tabs_below HT.out HB1.out) h2 HS1.out HM.out.ok).mono ?_
  rintro e w2 ⟨⟨r, rfl, _, hr⟩, hb2, h3⟩
  have HH : Hid (SaidB (HoldsG ⟨op, n, v⟩ (labGet l n)) (.returned (.bool r))) := Lib.hid ⟨r, rfl, by rw [HX.out]; exact holds_of HM.out.right (hr HM.out.right)⟩
  have HB2 := Lib.hid ((But.of HB1.out).trans hb2 : But b w w2)
  have H3 := Lib.hid h3
  clear hb2 h3 hr
  go_wp2_with fail
  cases r <;> (go_wp2_with fail; go_ret; exact ⟨HH.out, HB2.out, H3.out⟩)

/-- A frame: of the blocks that were there, those of a list alone may have turned. -/
structure Buts (bs : List Nat) (w w' : World) : Prop where
  os : w'.os = w.os
  tape : w'.tape = w.tape
  output : w'.output = w.output
  size : w.heap.size ≤ w'.heap.size
  block : ∀ k, k < w.heap.size → k ∉ bs → w'.heap[k]? = w.heap[k]?

theorem Buts.refl (bs : List Nat) (w : World) : Buts bs w w := ⟨rfl, rfl, rfl, Nat.le_refl _, fun _ _ _ => rfl⟩
theorem Buts.trans {bs : List Nat} {w1 w2 w3 : World} (h : Buts bs w1 w2) (k : Buts bs w2 w3) : Buts bs w1 w3 :=
  ⟨k.os.trans h.os, k.tape.trans h.tape, k.output.trans h.output, Nat.le_trans h.size k.size, fun i hi hn => (k.block i (Nat.lt_of_lt_of_le hi h.size) hn).trans (h.block i hi hn)⟩
theorem Buts.of {bs : List Nat} {b : Nat} {w w' : World} (h : But b w w') (hb : b ∈ bs) : Buts bs w w' := ⟨h.os, h.tape, h.output, h.size, fun k hk hn => h.block k hk (fun e => hn (e ▸ hb))⟩
theorem Buts.below {bs : List Nat} {w w' : World} {lo : Nat} (h : Buts bs w w') (hb : ∀ b, b ∈ bs → lo ≤ b) (hl : lo ≤ w.heap.size) : Below lo w w' :=
  ⟨h.os, h.tape, h.output, h.size, fun k hk => h.block k (by omega) (fun e => by have := hb k e; omega)⟩

/-- A compiled list, its matchers asked or not. -/
structure LsG (w : World) (xb : Nat) (v : Value) (bs : List Nat) (l : List Mat) (B : Nat) : Prop where
  cell : w.cell? ⟨xb, 0, none⟩ = some v
  own : w.ownsRow 0 131 1 v bs.length (ptrsOf bs)
  len : bs.length = l.length
  mt : ∀ (i b : Nat) (m : Mat), bs[i]? = some b → l[i]? = some m → MtG w b m.op m.n m.v B
  ne1 : ∀ b, b ∈ bs → b ≠ xb
  ne2 : ∀ b, b ∈ bs → v.ownBlock ≠ some b
  nd : bs.Nodup
  lt : xb < B
  row : ∀ g, v.ownBlock = some g → g < B
  le : B ≤ w.heap.size

theorem ownsRow_base {w : World} {base base' : Nat} {e : TypeId} {size : Nat} {v : Value} {n : Nat} {xs : List Value} (h : w.ownsRow base e size v n xs) (hb : base' ≤ base) : w.ownsRow base' e size v n xs := by
  obtain ⟨h1, h2⟩ := h
  refine ⟨h1, h2.imp id ?_⟩
  rintro ⟨g, cap, cur, a1, a2, a3⟩
  exact ⟨g, cap, cur, a1, by omega, a3⟩

theorem LsNew.toG {w : World} {xb lo : Nat} {v : Value} {bs : List Nat} {l : List Mat} (h : LsNew w xb v bs l lo) : LsG w xb v bs l w.heap.size where
  cell := h.cell
  own := ownsRow_base h.own (Nat.zero_le _)
  len := h.len
  mt := fun i b m h1 h2 => by
    obtain ⟨s, hs⟩ := h.mt i b m h1 h2
    exact MtG.fresh hs hs.lt (Nat.le_refl _)
  ne1 := h.ne1
  ne2 := h.ne2
  nd := h.nd
  lt := h.lt
  row := fun g hg => (h.own.lt g hg).2
  le := Nat.le_refl _

theorem LsG.mem_lt {w : World} {xb B : Nat} {v : Value} {bs : List Nat} {l : List Mat} (h : LsG w xb v bs l B) (b : Nat) (hb : b ∈ bs) : b < B := by
  obtain ⟨i, hi, rfl⟩ := List.getElem_of_mem hb
  have hl : i < l.length := by rw [← h.len]; exact hi
  exact (h.mt i _ _ (List.getElem?_eq_getElem hi) (List.getElem?_eq_getElem hl)).1

theorem LsG.asked {w w' : World} {xb B k b : Nat} {v : Value} {bs : List Nat} {l : List Mat} {m : Mat} (h : LsG w xb v bs l B) (hk : bs[k]? = some b) (hm : l[k]? = some m) (hb : But b w w') (hg : MtG w' b m.op m.n m.v B) : LsG w' xb v bs l B where
  cell := (hb.cell (p := ⟨xb, 0, none⟩) (Nat.lt_of_lt_of_le h.lt h.le) (fun e => h.ne1 b (List.mem_of_getElem? hk) e.symm)).trans h.cell
  own := h.own.kept (row := some b) ⟨hb.os, hb.tape, hb.output, hb.size, fun i hi hn => hb.block i hi (fun e => hn (by rw [e]))⟩ (.inr (h.ne2 b (List.mem_of_getElem? hk)))
  len := h.len
  mt := fun i c x h1 h2 => by
    by_cases hi : i = k
    · subst hi
      rw [hk] at h1; rw [hm] at h2
      cases h1; cases h2
      exact hg
    · refine (h.mt i c x h1 h2).but hb (h.mem_lt b (List.mem_of_getElem? hk)) (fun e => hi ?_)
      have hi1 := (List.getElem?_eq_some_iff.1 h1)
      have hk1 := (List.getElem?_eq_some_iff.1 hk)
      obtain ⟨a1, a2⟩ := hi1
      obtain ⟨k1, k2⟩ := hk1
      exact (List.getElem_inj h.nd).1 (by rw [a2, k2]; exact e.symm)
  ne1 := h.ne1
  ne2 := h.ne2
  nd := h.nd
  lt := h.lt
  row := h.row
  le := Nat.le_trans h.le hb.size

theorem LsG.below {w w' : World} {xb B : Nat} {v : Value} {bs : List Nat} {l : List Mat} (h : LsG w xb v bs l B) (hb : Below w.heap.size w w') : LsG w' xb v bs l B where
  cell := (hb.cell (p := ⟨xb, 0, none⟩) (Nat.lt_of_lt_of_le h.lt h.le)).trans h.cell
  own := h.own.kept (grown_below hb) (by cases v.ownBlock <;> simp)
  len := h.len
  mt := fun i c x h1 h2 => (h.mt i c x h1 h2).below hb
  ne1 := h.ne1
  ne2 := h.ne2
  nd := h.nd
  lt := h.lt
  row := h.row
  le := Nat.le_trans h.le hb.size

/-- The row's pointers. -/
theorem LsG.ptr {w : World} {xb B k b : Nat} {v : Value} {bs : List Nat} {l : List Mat} (h : LsG w xb v bs l B) (hk : bs[k]? = some b) : ∃ g cap, v = .slice (some ⟨g, 0, none⟩) bs.length cap ∧ w.cell? ⟨g, k, none⟩ = some (.pointer (some ⟨b, 0, none⟩)) := by
  have hkl := (List.getElem?_eq_some_iff.1 hk).1
  have hown := h.own
  rcases hown.2 with ⟨_, hx⟩ | ⟨g, cap, cur, hv, _⟩
  · have : bs = [] := by simpa [ptrsOf] using hx
    rw [this] at hk; simp at hk
  · refine ⟨g, cap, hv, ?_⟩
    rw [hv] at hown
    rw [hown.cellAt k (by omega)]
    simp [ptrsOf, hk]

/-- Some matcher of a list says no. -/
theorem not_all {l : List Mat} {ls : List Lab} {m : Mat} {k : Nat} (hm : l[k]? = some m) (h : ¬ HoldsG m (labGet ls m.n)) : ¬ ∀ m, m ∈ l → HoldsG m (labGet ls m.n) := fun ha => h (ha m (List.mem_of_getElem? hm))

set_option maxRecDepth 100000 in
set_option maxHeartbeats 2000000 in
theorem list_labels_g (w : World) (xb B lo' : Nat) (v : Value) (bs : List Nat) (l : List Mat) (lb lo c : Nat) (ls : List Lab) (hl : LabAt w lb lo ls) (hlt : lb < w.heap.size) (hlb : lb ∉ bs) (hln : ls.length ≤ 1000000) (hT : Lib.Utf8Tabs 0 1 w) (h2 : 2 ≤ lo') (hlo : ∀ b, b ∈ bs → lo' ≤ b) (hlw : lo' ≤ w.heap.size)
    (h : LsG w xb v bs l B) (hm : ∀ m, m ∈ l → m.Good) (hn : l.length ≤ 16) :
    Calls Tryz.prog 45 #[.pointer (some ⟨xb, 0, none⟩), .slice (some ⟨lb, lo, none⟩) ls.length c] w (fun e w' => SaidB (∀ m, m ∈ l → HoldsG m (labGet ls m.n)) e ∧ Buts bs w w' ∧ LsG w' xb v bs l B) := by
  have c0 := h.cell
  have H := Lib.hid h
  have HM := Lib.hid hm
  have HT := Lib.hid hT
  have HL := Lib.hid hl
  have HLO := Lib.hid hlo
  have HNB := Lib.hid hlb
  have hbl : bs.length = l.length := h.len
  have HBL := Lib.hid hbl
  by_cases hz : l.length = 0
  · have hl0 : l = [] := List.length_eq_zero_iff.1 hz
    have hb0 : bs = [] := List.length_eq_zero_iff.1 (by omega)
    have hv : v = .slice none 0 0 ∨ ∃ g cap, v = .slice (some ⟨g, 0, none⟩) 0 cap := by
      rcases h.own.2 with ⟨h1, _⟩ | ⟨g, cap, cur, h1, _⟩
      · exact .inl h1
      · exact .inr ⟨g, cap, by rw [h1, hb0]; rfl⟩
    subst hl0 hb0
    clear h hm hT hl hlo hlb hbl hz
    rcases hv with rfl | ⟨g, cap, rfl⟩
    all_goals
      go_enter Tryz.func45, Tryz.ntmps45
      go_wp2_with fail
      refine wp_loop_rounds 1 ?_
      rw [rounds_succ]
      go_wp2_with fail
      go_ret
      exact ⟨⟨true, rfl, by simp⟩, Buts.refl _ _, H.out⟩
  obtain ⟨b0, hb0⟩ : ∃ b0, bs[0]? = some b0 := ⟨_, List.getElem?_eq_getElem (by omega)⟩
  obtain ⟨g, cap, hv, _⟩ := h.ptr hb0
  subst hv
  rw [hbl] at c0
  clear h hm hT hl hlo hlb hbl hb0
  go_enter Tryz.func45, Tryz.ntmps45
  go_wp2_with fail
  go_loopg [14] l.length (fun gg i wr => ∃ k, k + gg = l.length ∧ i = .int .i64 k ∧ Buts bs w wr ∧ LsG wr xb (.slice (some ⟨g, 0, none⟩) bs.length cap) bs l B ∧ ∀ j m, j < k → l[j]? = some m → HoldsG m (labGet ls m.n))
  case atStart => exact ⟨0, by omega, rfl, Buts.refl _ _, H.out, fun j m hj => by omega⟩
  case round =>
    obtain ⟨k, hkg, rfl, hb, hG, hall⟩ := hrel
    have HB := Lib.hid hb
    have HG := Lib.hid hG
    have HA := Lib.hid hall
    have hsz := hb.size
    clear hb hG hall
    by_cases hlt2 : k < l.length
    · obtain ⟨m, hm⟩ : ∃ m, l[k]? = some m := ⟨_, List.getElem?_eq_getElem hlt2⟩
      obtain ⟨b, hb⟩ : ∃ b, bs[k]? = some b := ⟨_, List.getElem?_eq_getElem (by rw [HBL.out]; exact hlt2)⟩
      have hbm := List.mem_of_getElem? hb
      obtain ⟨g', cap', hv, hptr⟩ := HG.out.ptr hb
      have hgg : g = g' := by injection hv with h1; injection h1 with h1; injection h1
      rw [← hgg] at hptr
      have hw1 : IntKind.i64.wrap ((k : Int) + 1) = (k : Int) + 1 := by rw [IntKind.wrap_i64] <;> omega
      have HBk := Lib.hid hb
      have HMk := Lib.hid hm
      have hlb2 : LabAt wr lb lo ls := fun i x hx => by
        have e := HB.out.block lb hlt HNB.out
        exact ⟨(World.cell?_of_block (w := w) (a := ⟨lb, lo + i * 2, none⟩) e).trans (HL.out i x hx).1, (World.cell?_of_block (w := w) (a := ⟨lb, lo + i * 2 + 1, none⟩) e).trans (HL.out i x hx).2⟩
      have HLB := Lib.hid hlb2
      have h2b : 2 ≤ b := by have := HLO.out b hbm; omega
      have HBM := Lib.hid hbm
      clear hb hm hv hgg hlb2 hbm
      go_wp2_with fail
      refine (labels_g wr b B m lb lo c ls HLB.out (by omega) hln (tabs_keep HT.out (fun i hi => HB.out.block i (by omega) (fun e => by have := HLO.out i e; omega))) h2b (HG.out.mt k b m HBk.out HMk.out) (HM.out m (List.mem_of_getElem? HMk.out))).mono ?_
      rintro e w2 ⟨⟨r, rfl, hr⟩, hb2, hm2⟩
      have HR := Lib.hid hr
      have HB2 := Lib.hid (HB.out.trans (.of hb2 HBM.out))
      have HG2 := Lib.hid (HG.out.asked HBk.out HMk.out hb2 hm2)
      clear hb2 hm2 hr hptr
      cases r with
      | true =>
        have HY : Hid (HoldsG m (labGet ls m.n)) := HR.out.1 rfl
        clear HR
        go_wp2_with fail
        go_roundg (gk - 1)
        case measure => omega
        case rel =>
          refine ⟨k + 1, by omega, by simp, HB2.out, HG2.out, fun j x hj hx => ?_⟩
          by_cases hjk : j = k
          · subst hjk
            rw [HMk.out] at hx
            cases hx
            exact HY.out
          · exact HA.out j x (by omega) hx
      | false =>
        have HN : Hid (¬ HoldsG m (labGet ls m.n)) := fun hh => by have := HR.out.2 hh; cases this
        clear HR
        go_wp2_with fail
        go_ret
        exact ⟨⟨false, rfl, by simpa using not_all HMk.out HN.out⟩, HB2.out, HG2.out⟩
    · obtain rfl : gk = 0 := by omega
      go_wp2_with fail
      go_ret
      refine ⟨⟨true, rfl, by simp; intro m hmm; obtain ⟨j, hj, rfl⟩ := List.getElem_of_mem hmm; exact HA.out j _ (by omega) (List.getElem?_eq_getElem hj)⟩, HB.out, HG.out⟩

end Go.Proofs.YteemciknbiloiaaGreatDoor.Ih
