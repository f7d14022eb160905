/- Walk over layer 5's count. -/
import Derived.Test.YtgcmjidphoklkaaGreatDoorRxCs
import Derived.Test.YtgcmjidphoklkaaGreatDoorRxWl
namespace Go.Proofs.YtgcmjidphoklkaaGreatDoor.Rx
open Go.RowKit Go.Sort

theorem mixed_length (w : World) : ∀ (k : Nat) (l : List Re), (mixed w k l).length = l.length
  | _, [] => by simp [mixed]
  | 0, r :: l => by simp [mixed, mixed_length w 0 l]
  | k + 1, r :: l => by simp [mixed, mixed_length w k l]

/-- What a part counts, of its kids' sum n. -/
def fin9 (c : P9) (n : Int) : Int := if c.kind = 0 then 1 else if c.kind ≠ 3 then n else if c.brace = false then n + 1 else if c.most < 0 then n * (c.least + 1) + 1 else n * c.most + 1

theorem fin9_cnt {N : Re → Int} {w : World} {r : Re} {c : P9} {K C : List Nat} (h : PV N w r c K C) (hw : Re.WF r) : min (fin9 c (Re.cntL r.kids)) 2001 = Re.cnt r ∨ ∃ a b, r = .fork a b := by
  cases r with
  | one p pl => left; simp [fin9, h.1, Re.cnt]; rfl
  | row l => left; obtain ⟨h1, _⟩ := h; simp [fin9, h1, Re.cnt, Re.kids]
  | fork a b => right; exact ⟨a, b, rfl⟩
  | loop k m n br =>
    left
    obtain ⟨h1, _, _, _, h2, h3, h4, _⟩ := h
    simp [fin9, h1, h2, h3, h4, Re.cnt, Re.kids, Re.cntL]

theorem fin9_cnt' {N : Re → Int} {w : World} {r : Re} {c : P9} {K C : List Nat} (h : PV N w r c K C) (hw : Re.WF r) : min (fin9 c (Re.cntL r.kids)) 2001 = Re.cnt r := by
  rcases fin9_cnt h hw with h1 | ⟨a, b, rfl⟩
  · exact h1
  · obtain ⟨h1, _⟩ := h
    simp [fin9, h1, Re.cnt, Re.kids, Re.cntL]

theorem PV.kids_of {w : World} {r : Re} {c : P9} {K C : List Nat} (h : PV noN w r c K C) : ∃ C', (∀ x, x ∈ C' → x ∈ C) ∧ Kids w (mixed w 0 r.kids) c.kids K C' ∧
    ∀ w' n, n = Re.cnt r → Like C w w' → Kids w' (mixed w' r.kids.length r.kids) c.kids K C' → PV Re.cnt w' r (c.withN n) K C := by
  cases r with
  | one p pl =>
    obtain ⟨h1, h2, h3, h4, h5, h6, h7, h8, h9, h10⟩ := h
    refine ⟨[], by simp, .inl ⟨rfl, h5, h10, rfl⟩, fun w' n hn hl hk => ?_⟩
    exact ⟨h1, h2.like hl, h3, h4, h5, h6, h7, h8, hn, h10⟩
  | row l =>
    obtain ⟨h1, h2, h3, h4, h5, h6, h7, h8, hk⟩ := h
    refine ⟨C, fun _ h => h, by rw [mixed_zero]; exact hk, fun w' n hn hl hk' => ?_⟩
    rw [mixed_all] at hk'
    exact ⟨h1, h2, h3, h4, h5, h6, h7, hn, hk'⟩
  | fork a b =>
    obtain ⟨h1, h2, h3, h4, h5, h6, h7, h8, hk⟩ := h
    refine ⟨C, fun _ h => h, by rw [mixed_zero]; exact hk, fun w' n hn hl hk' => ?_⟩
    rw [mixed_all] at hk'
    exact ⟨h1, h2, h3, h4, h5, h6, h7, hn, hk'⟩
  | loop k m n' br =>
    obtain ⟨h1, h2, h3, h4, h5, h6, h7, h8, hk⟩ := h
    refine ⟨C, fun _ h => h, by rw [mixed_zero]; exact hk, fun w' n hn hl hk' => ?_⟩
    rw [mixed_all] at hk'
    exact ⟨h1, h2, h3, h4, h5, h6, h7, hn, hk'⟩

theorem Kids.slice {w : World} {l : List PR} {v : Value} {K C : List Nat} (h : Kids w l v K C) : ∃ base cap, v = .slice base l.length cap := by
  rcases h with ⟨rfl, hv, _⟩ | ⟨b, cap, _, hv, _⟩
  · exact ⟨none, 0, hv⟩
  · exact ⟨_, cap, hv⟩

def CountSaid (r : Re) : Prop := ∀ (w : World) (b o : Nat) (c : P9) (K C : List Nat), Cells9 w b o c → w.frozen? ⟨b, o + 8, none⟩ = false → PV noN w r c K C → Sep K C → b ∉ K ++ C → Re.WF r → Re.Sm r →
  Calls Tryz.prog 43 #[.pointer (some ⟨b, o, none⟩)] w (fun e w' => e = .returned (.int .i64 (Re.cnt r)) ∧ PV Re.cnt w' r (c.withN (Re.cnt r)) K C ∧ Cells9 w' b o (c.withN (Re.cnt r)) ∧ Fr K b o w w')

/-- What has changed behind some rounds: blocks of K alone. -/
structure Fr0 (K : List Nat) (w w' : World) : Prop where
  os : w'.os = w.os
  tape : w'.tape = w.tape
  output : w'.output = w.output
  size : w'.heap.size = w.heap.size
  block : ∀ k, k ∉ K → w'.heap[k]? = w.heap[k]?
  frozen : ∀ a, w'.frozen? a = w.frozen? a

def CtRel (w0 : World) (l : List Re) (v : Value) (K C : List Nat) (g : Nat) (n i : Value) (wr : World) : Prop :=
  ∃ k : Nat, k + g = l.length ∧ n = .int .i64 (Re.cntL (l.take k)) ∧ i = .int .i64 k ∧ Kids wr (mixed wr k l) v K C ∧ Fr0 K w0 wr

theorem cntL_le : ∀ l : List Re, Re.WFL l → Re.cntL l ≤ 2001 * l.length
  | [], _ => by simp [Re.cntL]
  | r :: l, h => by
    have h1 := Re.cnt_bd r h.1
    have h2 := cntL_le l h.2
    simp only [Re.cntL, List.length_cons]; omega

theorem kids_wf : ∀ (r : Re), Re.WF r → Re.WFL r.kids
  | .one _ _, _ => trivial
  | .row _, h => h
  | .fork _ _, h => ⟨h.1, h.2, trivial⟩
  | .loop _ _ _ _, h => ⟨h.1, trivial⟩

theorem cntL_take : ∀ (l : List Re) (k : Nat) (q : Re), l[k]? = some q → Re.cntL (l.take (k + 1)) = Re.cntL (l.take k) + Re.cnt q
  | [], k, q, h => by simp at h
  | r :: l, 0, q, h => by simp at h; subst h; simp [Re.cntL]
  | r :: l, k + 1, q, h => by
    have := cntL_take l k q (by simpa using h)
    simp only [List.take_succ_cons, Re.cntL]
    omega

theorem WFL_take : ∀ (l : List Re) (k : Nat), Re.WFL l → Re.WFL (l.take k)
  | [], _, _ => by simp [Re.WFL]
  | _ :: _, 0, _ => trivial
  | _ :: l, k + 1, h => ⟨h.1, WFL_take l k h.2⟩

theorem PV.reach {N : Re → Int} {w : World} {r : Re} {c : P9} {K C : List Nat} (h : PV N w r c K C) (hw : Re.WF r) : 0 ≤ c.least ∧ c.least ≤ 99 ∧ -1 ≤ c.most ∧ c.most ≤ 99 := by
  cases r with
  | one p pl => obtain ⟨_, _, _, _, _, h1, h2, _⟩ := h; omega
  | row l => obtain ⟨_, _, _, _, h1, h2, _⟩ := h; omega
  | fork a b => obtain ⟨_, _, _, _, h1, h2, _⟩ := h; omega
  | loop k m n br => obtain ⟨_, _, _, _, h1, h2, _⟩ := h; obtain ⟨_, h3, h4, h5, h6, _⟩ := hw; omega

theorem mul_reach {n c : Int} (h0 : 0 ≤ n) (h1 : n ≤ 512256) (h2 : 0 ≤ c) (h3 : c ≤ 100) : 0 ≤ n * c ∧ n * c ≤ 51225600 := by
  refine ⟨Int.mul_nonneg h0 h2, ?_⟩
  have a := Int.mul_le_mul h1 h3 h2 (by omega)
  omega

/-- The end of a count. -/
theorem count_end {r : Re} {w wr : World} {b o : Nat} {c : P9} {K C C' : List Nat} {X : Int} (hX : X = Re.cnt r) (hb : b ∉ K ++ C) (_hf : wr.frozen? ⟨b, o + 8, none⟩ = false) (hcr : Cells9 wr b o c) (hfr : Fr0 K w wr) (hs : Sep K C)
    (hfin : ∀ w' n, n = Re.cnt r → Like C w w' → Kids w' (mixed w' r.kids.length r.kids) c.kids K C' → PV Re.cnt w' r (c.withN n) K C) (_hC : ∀ x, x ∈ C' → x ∈ C) (hk : Kids wr (mixed wr r.kids.length r.kids) c.kids K C') :
    PV Re.cnt (wr.setCell ⟨b, o + 8, none⟩ (.int .i64 X)) r (c.withN (Re.cnt r)) K C ∧ Cells9 (wr.setCell ⟨b, o + 8, none⟩ (.int .i64 X)) b o (c.withN (Re.cnt r)) ∧ Fr K b o w (wr.setCell ⟨b, o + 8, none⟩ (.int .i64 X)) := by
  subst hX
  have hbl : ∀ k, k ≠ b → (wr.setCell ⟨b, o + 8, none⟩ (.int .i64 (Re.cnt r))).heap[k]? = wr.heap[k]? := fun k hk => setCell_block_ne _ _ _ _ hk
  have hw : PV Re.cnt wr r (c.withN (Re.cnt r)) K C := hfin wr _ rfl ⟨fun k hk => hfr.block k (fun h => hs.apart k h hk), Nat.le_of_eq hfr.size.symm⟩ hk
  refine ⟨hw.like ⟨fun k hk => hbl k (fun h => hb (h ▸ hk)), by simp⟩, ?_, ?_⟩
  · obtain ⟨c0, c1, c2, c3, c4, c5, c6, c7, c8⟩ := hcr
    constructor <;> simp [go_sem, c0, c1, c2, c3, c4, c5, c6, c7, c8]
  · refine ⟨hfr.os, hfr.tape, hfr.output, by rw [setCell_size]; exact hfr.size, fun k h1 h2 => (hbl k h2).trans (hfr.block k h1), fun j hj => ?_, fun a => ?_⟩
    · have hbK : b ∉ K := fun h => hb (List.mem_append_left _ h)
      have h1 : wr.cell? ⟨b, j, none⟩ = w.cell? ⟨b, j, none⟩ := World.cell?_of_block (w := w) (hfr.block b hbK)
      rw [← h1]
      simp [go_sem]
    · rw [← hfr.frozen a]
      simp [go_sem]

theorem count_step (r : Re) (ih : ∀ k, k ∈ r.kids → CountSaid k) (hwk : ∀ k, k ∈ r.kids → Re.WF k ∧ Re.Sm k) (hlen : r.kids.length ≤ 256) : CountSaid r := by
  intro w b o c K C hc hf hp hs hb hwf hsm
  obtain ⟨C', hC, hk, hfin⟩ := hp.kids_of
  have hcnt := fin9_cnt' hp hwf
  have HI : Hid (∀ k, k ∈ r.kids → CountSaid k) := ih
  have HK := Lib.hid hk
  have HS := Lib.hid hs
  have HF := Lib.hid hfin
  have HP := Lib.hid hp
  have HB := Lib.hid hb
  have HC := Lib.hid hC
  have HCN := Lib.hid hcnt
  have HWK := Lib.hid hwk
  have HWF := Lib.hid hwf
  have HCC := Lib.hid hc
  obtain ⟨base, cap, hv⟩ := hk.slice
  obtain ⟨ck, ci, cp, cr, cd, cl, cm, cb, cn⟩ := c
  simp only at hv
  subst hv
  rw [mixed_length] at *
  obtain ⟨c0, c1, c2, c3, c4, c5, c6, c7, c8⟩ := hc
  simp only at c0 c1 c2 c3 c4 c5 c6 c7 c8
  clear ih hk hs hfin hp hb hC hcnt hwk hwf hsm
  go_enter Tryz.func43, Tryz.ntmps43
  go_wp2_with fail
  go_loopg [3, 10] r.kids.length (fun g n i wr => CtRel w r.kids (.slice base r.kids.length cap) K C' g n i wr)
  case atStart => exact ⟨0, by omega, by simp [Re.cntL], rfl, HK.out, ⟨rfl, rfl, rfl, rfl, fun _ _ => rfl, fun _ => rfl⟩⟩
  case round =>
    obtain ⟨k, hkg, rfl, rfl, hkk, hfr⟩ := hrel
    have hbK : b ∉ K := fun h => HB.out (List.mem_append_left _ h)
    have hcr := HCC.out.like (hfr.block b hbK)
    have hfz : wr.frozen? ⟨b, o + 8, none⟩ = false := (hfr.frozen _).trans hf
    have HCR := Lib.hid hcr
    have HFR := Lib.hid hfr
    have HKK := Lib.hid hkk
    clear c0 c1 c2 c3 c4 c5 c6 c7 c8 hf
    obtain ⟨c0, c1, c2, c3, c4, c5, c6, c7, c8⟩ := hcr
    simp only at c0 c1 c2 c3 c4 c5 c6 c7 c8
    clear hfr hkk
    generalize hL : r.kids.length = L at *
    have HL := Lib.hid hL
    clear hL
    by_cases hlt : k < L
    · obtain ⟨q, hq⟩ : ∃ q, r.kids[k]? = some q := ⟨_, List.getElem?_eq_getElem (by rw [HL.out]; exact hlt)⟩
      have hmem : q ∈ r.kids := List.mem_of_getElem? hq
      rcases HKK.out with ⟨h0, _⟩ | ⟨kb, cap', K', hv, hKK, hfk, hka⟩
      · exfalso
        have := mixed_length wr k r.kids
        rw [h0, HL.out] at this
        simp at this; omega
      injection hv with hv1 hv2 hv3
      subst hv1 hv3
      clear hv2
      have hsep : Sep K' C' := ⟨by have := HS.out.nodup; rw [hKK] at this; exact (List.nodup_cons.1 this).2, fun x hx hc => HS.out.apart x (by rw [hKK]; exact List.mem_cons_of_mem _ hx) (HC.out x hc)⟩
      obtain ⟨c1', K1, C1, hK1, hC1, hs1, hc1, hp1, hre⟩ := mixed_step r.kids k 0 K' C' q hq hka hsep
      have hkbn : kb ∉ K1 ++ C1 := fun h => by
        have hn := HS.out.nodup
        rw [hKK] at hn
        rcases List.mem_append.1 h with h | h
        · exact (List.nodup_cons.1 hn).1 (hK1 kb h)
        · exact HS.out.apart kb (by rw [hKK]; simp) (HC.out kb (hC1 kb h))
      have hadr : 0 + 9 * k = k * 9 := by omega
      rw [hadr] at hc1 hre
      have HCT := Lib.hid (HI.out q hmem wr kb (k * 9) c1' K1 C1 hc1 (hfk _) hp1 hs1 hkbn (HWK.out q hmem).1 (HWK.out q hmem).2)
      have HRE := Lib.hid hre
      have hsum := cntL_take r.kids k q hq
      have hb0 := Re.cntL_bd _ (WFL_take _ (k + 1) (kids_wf r HWF.out))
      have hb1 := cntL_le _ (WFL_take _ (k + 1) (kids_wf r HWF.out))
      have hb2 : (r.kids.take (k + 1)).length ≤ 256 := by rw [List.length_take]; omega
      generalize hn1 : Re.cntL (r.kids.take k) = n1 at *
      have hw1 : wrap64 (n1 + Re.cnt q) = n1 + Re.cnt q := by unfold wrap64; omega
      have hw2 : wrap64 ((k : Int) + 1) = (k : Int) + 1 := by unfold wrap64; omega
      have hw3 : IntKind.i64.wrap (n1 + Re.cnt q) = n1 + Re.cnt q := by rw [IntKind.wrap_i64] <;> omega
      have HSUM := Lib.hid hsum
      have HHC := Lib.hid hc1
      clear hre hc1 hp1 hs1 hkbn hadr hsum hb0 hb1 hb2 hn1
      go_wp2_with fail
      refine HCT.out.mono ?_
      rintro e w2 ⟨rfl, hpv, hcc, hfr2⟩
      have HPV := Lib.hid hpv
      have HC2 := Lib.hid hcc
      have HF2 := Lib.hid hfr2
      clear hpv hcc hfr2 HCT c0 c1 c2 c3 c4 c5 c6 c7 c8 hfz
      go_wp2_with fail
      go_roundg (gk - 1)
      case measure => omega
      case rel =>
        have hkK : kb ∉ K' := fun h => by have hn := HS.out.nodup; rw [hKK] at hn; exact (List.nodup_cons.1 hn).1 h
        have hK1K : ∀ x, x ∈ K1 → x ∈ K := fun x hx => by rw [hKK]; exact List.mem_cons_of_mem _ (hK1 x hx)
        have hkbK : kb ∈ K := by rw [hKK]; simp
        refine ⟨k + 1, by have := HL.out; omega, by rw [HSUM.out], by simp, .inr ⟨kb, cap, K', by rw [mixed_length, HL.out], hKK, fun j => (HF2.out.frozen _).trans (hfk j), HRE.out w2 HPV.out HC2.out (fun j hj => HF2.out.cell j (by omega)) (fun x hx hn => HF2.out.block x hn (fun h => ?_)) (Nat.le_of_eq HF2.out.size.symm)⟩, ?_⟩
        · subst h
          rcases List.mem_append.1 hx with hx | hx
          · exact hkK hx
          · exact HS.out.apart _ hkbK (HC.out _ hx)
        · exact ⟨HF2.out.os.trans HFR.out.os, HF2.out.tape.trans HFR.out.tape, HF2.out.output.trans HFR.out.output, HF2.out.size.trans HFR.out.size, fun x hx => (HF2.out.block x (fun h => hx (hK1K x h)) (fun h => hx (h ▸ hkbK))).trans (HFR.out.block x hx), fun a => (HF2.out.frozen a).trans (HFR.out.frozen a)⟩
    · obtain rfl : k = L := by omega
      have hnn : Re.cntL (r.kids.take k) = Re.cntL r.kids := by rw [← HL.out, List.take_length]
      rw [hnn]
      have hb0 := Re.cntL_bd _ (kids_wf r HWF.out)
      have hb1 := cntL_le _ (kids_wf r HWF.out)
      rw [HL.out] at hb1
      have hrc := HP.out.reach HWF.out
      simp only at hrc
      obtain ⟨hr1, hr2, hr3, hr4⟩ := hrc
      generalize hn0 : Re.cntL r.kids = n0 at *
      have hn5 : n0 ≤ 512256 := by omega
      have hq1 := mul_reach hb0 hn5 (c := cl + 1) (by omega) (by omega)
      have hq2 : 0 ≤ cm → 0 ≤ n0 * cm ∧ n0 * cm ≤ 51225600 := fun h => mul_reach hb0 hn5 h (by omega)
      have HQ2 := Lib.hid hq2
      have hw1 : IntKind.i64.wrap (n0 + 1) = n0 + 1 := by rw [IntKind.wrap_i64] <;> omega
      have hw2 : IntKind.i64.wrap (cl + 1) = cl + 1 := by rw [IntKind.wrap_i64] <;> omega
      have hw1' : wrap64 (n0 + 1) = n0 + 1 := by unfold wrap64; omega
      have hw2' : wrap64 (cl + 1) = cl + 1 := by unfold wrap64; omega
      generalize hp1 : n0 * (cl + 1) = p1 at *
      have hw3 : IntKind.i64.wrap p1 = p1 := by rw [IntKind.wrap_i64] <;> omega
      have hw4 : IntKind.i64.wrap (p1 + 1) = p1 + 1 := by rw [IntKind.wrap_i64] <;> omega
      have hw3' : wrap64 p1 = p1 := by unfold wrap64; omega
      have hw4' : wrap64 (p1 + 1) = p1 + 1 := by unfold wrap64; omega
      have HKK' : Hid (Kids wr (mixed wr r.kids.length r.kids) (.slice base r.kids.length cap) K C') := by
        have h := HKK.out
        rw [← HL.out] at h
        exact h
      have HCR' : Hid (Cells9 wr b o ⟨ck, ci, cp, cr, .slice base r.kids.length cap, cl, cm, cb, cn⟩) := by
        rw [HL.out]
        exact HCR.out
      have HCNa : Hid (cm < 0 → ∀ X, (X = cond (ck == 0) 1 (cond (ck != 3) n0 (cond (!cb) (n0 + 1) (p1 + 1)))) → min X 2001 = r.cnt) := by
        intro h X hX
        rw [hX, ← HCN.out, ← hp1]
        simp only [fin9, h, if_true]
        simp only [Bool.cond_eq_ite, beq_iff_eq, bne_iff_ne, ne_eq, Bool.not_eq_true']
      have HCNb : Hid (0 ≤ cm → ∀ X, (X = cond (ck == 0) 1 (cond (ck != 3) n0 (cond (!cb) (n0 + 1) (n0 * cm + 1)))) → min X 2001 = r.cnt) := by
        intro h X hX
        rw [hX, ← HCN.out]
        simp only [fin9, Int.not_lt.2 h, if_false]
        simp only [Bool.cond_eq_ite, beq_iff_eq, bne_iff_ne, ne_eq, Bool.not_eq_true']
      have HR1 := Lib.hid hr1
      have HR2 := Lib.hid hr2
      have HQ1 := Lib.hid hq1
      have HB0 := Lib.hid hb0
      have HB1 := Lib.hid hn5
      clear hq2 hlt hnn hn0 hkg hb0 hb1 hr1 hr2 hr3 hr4 hn5 hq1
      by_cases hcm : cm < 0
      · go_wp2_with fail
        all_goals go_ret
        all_goals
          have hL2 : k = r.kids.length := HL.out.symm
          subst hL2
          refine ⟨congrArg (fun x => Ending.returned (.int .i64 x)) (HCNa.out hcm _ ?_), count_end (HCNa.out hcm _ ?_) HB.out hfz HCR'.out HFR.out HS.out HF.out HC.out HKK'.out⟩ <;> simp only [*, cond_true, cond_false]
      · have hq2 := HQ2.out (by omega)
        replace hcm : 0 ≤ cm := by omega
        generalize hp2 : n0 * cm = p2 at *
        have hw5 : IntKind.i64.wrap p2 = p2 := by rw [IntKind.wrap_i64] <;> omega
        have hw6 : IntKind.i64.wrap (p2 + 1) = p2 + 1 := by rw [IntKind.wrap_i64] <;> omega
        have hw5' : wrap64 p2 = p2 := by unfold wrap64; omega
        have hw6' : wrap64 (p2 + 1) = p2 + 1 := by unfold wrap64; omega
        clear hq2
        go_wp2_with fail
        all_goals go_ret
        all_goals
          have hL2 : k = r.kids.length := HL.out.symm
          subst hL2
          refine ⟨congrArg (fun x => Ending.returned (.int .i64 x)) (HCNb.out hcm _ ?_), count_end (HCNb.out hcm _ ?_) HB.out hfz HCR'.out HFR.out HS.out HF.out HC.out HKK'.out⟩ <;> simp only [*, cond_true, cond_false]

mutual
theorem count_all : ∀ r : Re, Re.WF r → Re.Sm r → CountSaid r
  | .one p pl, _, _ => count_step _ (fun k hk => by simp [Re.kids] at hk) (fun k hk => by simp [Re.kids] at hk) (by simp [Re.kids])
  | .row l, hw, hs => count_step _ (count_allL l hw hs.1) (fun k hk => ⟨WFL_mem hw hk, SmL_mem hs.1 hk⟩) hs.2
  | .fork a b, hw, hs => count_step _ (fun k hk => (List.mem_cons.1 hk).elim (fun h => h ▸ count_all a hw.1 hs.1) (fun h => (List.mem_singleton.1 h) ▸ count_all b hw.2 hs.2))
      (fun k hk => (List.mem_cons.1 hk).elim (fun h => h ▸ ⟨hw.1, hs.1⟩) (fun h => (List.mem_singleton.1 h) ▸ ⟨hw.2, hs.2⟩)) (by simp [Re.kids])
  | .loop q m n br, hw, hs => count_step _ (fun k hk => (List.mem_singleton.1 hk) ▸ count_all q hw.1 hs) (fun k hk => (List.mem_singleton.1 hk) ▸ ⟨hw.1, hs⟩) (by simp [Re.kids])
theorem count_allL : ∀ l : List Re, Re.WFL l → Re.SmL l → ∀ k, k ∈ l → CountSaid k
  | [], _, _, k, hk => by simp at hk
  | r :: l, hw, hs, k, hk => (List.mem_cons.1 hk).elim (fun h => h ▸ count_all r hw.1 hs.1) (fun h => count_allL l hw.2 hs.2 k h)
end

end Go.Proofs.YtgcmjidphoklkaaGreatDoor.Rx
