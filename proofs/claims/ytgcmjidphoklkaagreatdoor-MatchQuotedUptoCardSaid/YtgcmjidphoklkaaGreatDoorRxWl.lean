/- Walks over layer 5's reader: choices. -/
import Derived.Test.YtgcmjidphoklkaaGreatDoorRxWk
namespace Go.Proofs.YtgcmjidphoklkaaGreatDoor.Rx
open Go.RowKit Go.Sort

attribute [local go_sem] run_store_one

/-- The cells of a fork whose two parts lie at block kb. -/
abbrev forkC (kb : Nat) : P9 := ⟨2, .nilFunc, false, 0, .slice (some ⟨kb, 0, none⟩) 2 2, 0, 0, false, 0⟩

theorem Fresh.fork {B B2 : Nat} {w w' : World} {t q : Re} {c c2 : P9} {K C K2 C2 : List Nat} {kb : Nat} (h : Fresh B w t c K C) (h2 : Fresh B2 w q c2 K2 C2) (hl : ∀ k, k ∈ K ++ C → k < B2) (hBB : B ≤ B2) (hkb : w.heap.size ≤ kb) (hBk : B ≤ w.heap.size)
    (hc : Cells9 w' kb 0 c) (hc2 : Cells9 w' kb 9 c2) (hf : ∀ j, w'.frozen? ⟨kb, j, none⟩ = false) (hs : w.heap.size ≤ w'.heap.size) (e : ∀ k, k ∈ K ++ C ∨ k ∈ K2 ++ C2 → w'.heap[k]? = w.heap[k]?) :
    Fresh B w' (.fork t q) (forkC kb) (kb :: (K ++ K2)) (C ++ C2) := by
  refine ⟨⟨rfl, rfl, rfl, rfl, rfl, rfl, rfl, rfl, .inr ⟨kb, 2, K ++ K2, rfl, rfl, hf, c, K, K2, C, C2, rfl, rfl, hc, h.pv.like ⟨fun k hk => e k (.inl hk), hs⟩, c2, K2, [], C2, [], by simp, by simp, hc2, h2.pv.like ⟨fun k hk => e k (.inr hk), hs⟩, rfl, rfl⟩⟩, ?_, ?_⟩
  · intro k hk
    have hk' : k = kb ∨ k ∈ K ++ C ∨ k ∈ K2 ++ C2 := by
      simp only [List.mem_append, List.mem_cons] at hk ⊢
      rcases hk with (rfl | hk | hk) | (hk | hk) <;> simp [*]
    rcases hk' with rfl | hk' | hk'
    · exact ⟨by omega, hc.lt⟩
    · have := h.inb k hk'; omega
    · have := h2.inb k hk'; omega
  · refine (h.sep.append h2.sep hl (fun k hk => (h2.inb k hk).1)).cons (fun hm => ?_) (fun hm => ?_)
    · rcases List.mem_append.1 hm with hm | hm
      · have := h.inb kb (by simp [hm]); omega
      · have := h2.inb kb (by simp [hm]); omega
    · rcases List.mem_append.1 hm with hm | hm
      · have := h.inb kb (by simp [hm]); omega
      · have := h2.inb kb (by simp [hm]); omega

/-- The state while choices are read. -/
structure CsSt (w0 : World) (b r p j : Nat) (t : Re) (c : P9) (K C : List Nat) (w : World) : Prop where
  mv : Moved w0 w b j
  z : Z9 w r
  cp : Cells9 w p 0 c
  fp : ∀ o, w.frozen? ⟨p, o, none⟩ = false
  fr : Fresh (r + 1) w t c K C
  np : p ∉ K ++ C

theorem CsSt.like {w0 w w' : World} {b r p j j' : Nat} {t : Re} {c : P9} {K C : List Nat} (h : CsSt w0 b r p j t c K C w) (hm : Moved w0 w' b j') (hs : w.heap.size ≤ w'.heap.size) (hb : b < r) (hr : r < p)
    (e : ∀ k, k < w.heap.size → k ≠ b → w'.heap[k]? = w.heap[k]?) : CsSt w0 b r p j' t c K C w' where
  mv := hm
  z := h.z.like (e r h.z.lt (by omega))
  cp := h.cp.like (e p h.cp.lt (by omega))
  fp := fun o => (World.frozen?_of_block (w := w) (w' := w') (a := ⟨p, o, none⟩) (e p h.cp.lt (by omega))).trans (h.fp o)
  fr := ⟨h.fr.pv.like ⟨fun k hk => e k (h.fr.inb k hk).2 (by have := h.fr.inb k hk; omega), hs⟩, h.fr.inb.mono (Nat.le_refl _) hs, h.fr.sep⟩
  np := h.np

theorem CsSt.below {w0 w w' : World} {b r p j : Nat} {t : Re} {c : P9} {K C : List Nat} (h : CsSt w0 b r p j t c K C w) (hb : b < r) (hr : r < p) (hbl : Below w.heap.size w w') : CsSt w0 b r p j t c K C w' :=
  h.like (h.mv.below hbl) hbl.size hb hr fun k hk _ => hbl.block k hk
theorem CsSt.moved {w0 w w' : World} {b r p j j' : Nat} {t : Re} {c : P9} {K C : List Nat} (h : CsSt w0 b r p j t c K C w) (hb : b < r) (hr : r < p) (m : Moved w w' b j') : CsSt w0 b r p j' t c K C w' :=
  h.like (h.mv.trans m) m.size hb hr fun k hk hne => by rw [Below.block m k hk]; exact setCell_block_ne _ _ _ _ hne

/-- One choice more. -/
theorem csNext {w0 w6 : World} {b r p j B : Nat} {t q : Re} {c6 : P9} {K C K2 C2 : List Nat} {qk ql qm qn : Int} {qi qd : Value} {qp qb : Bool} {qr : Int} (h : CsSt w0 b r p j t ⟨qk, qi, qp, qr, qd, ql, qm, qb, qn⟩ K C w6) (hF : Fresh B w6 q c6 K2 C2) (hw : w0.heap.size ≤ r) (hr : r < p)
    (hB : ∀ k, k ∈ K ++ C → k < B) (hpB : p < B) :
    CsSt w0 b r p j (.fork t q) (forkC w6.heap.size) (w6.heap.size :: (K ++ K2)) (C ++ C2)
      ((put9 w6 p (.int .i64 2) .nilFunc (.bool false) (.int .i32 0) (.slice (some ⟨w6.heap.size, 0, none⟩) 2 2) (.int .i64 0) (.int .i64 0) (.bool false) (.int .i64 0)).alloc
        (.cells #[.int .i64 qk, qi, .bool qp, .int .i32 qr, qd, .int .i64 ql, .int .i64 qm, .bool qb, .int .i64 qn, .int .i64 c6.kind, c6.is, .bool c6.plain, .int .i32 c6.r, c6.kids, .int .i64 c6.least, .int .i64 c6.most, .bool c6.brace, .int .i64 c6.n] 92)) := by
  have hms := h.mv.size
  have hpl := h.cp.lt
  have hM9 : Moved w0 (put9 w6 p (.int .i64 2) .nilFunc (.bool false) (.int .i32 0) (.slice (some ⟨w6.heap.size, 0, none⟩) 2 2) (.int .i64 0) (.int .i64 0) (.bool false) (.int .i64 0)) b j := put9_below h.mv p (by omega) _ _ _ _ _ _ _ _ _
  have e9 : ∀ k, k ≠ p → (put9 w6 p (.int .i64 2) .nilFunc (.bool false) (.int .i32 0) (.slice (some ⟨w6.heap.size, 0, none⟩) 2 2) (.int .i64 0) (.int .i64 0) (.bool false) (.int .i64 0)).heap[k]? = w6.heap[k]? := fun k hk => put9_block _ _ _ _ _ _ _ _ _ _ _ hk
  have s9 : (put9 w6 p (.int .i64 2) .nilFunc (.bool false) (.int .i32 0) (.slice (some ⟨w6.heap.size, 0, none⟩) 2 2) (.int .i64 0) (.int .i64 0) (.bool false) (.int .i64 0)).heap.size = w6.heap.size := put9_size _ _ _ _ _ _ _ _ _ _ _
  have c9 : Cells9 (put9 w6 p (.int .i64 2) .nilFunc (.bool false) (.int .i32 0) (.slice (some ⟨w6.heap.size, 0, none⟩) 2 2) (.int .i64 0) (.int .i64 0) (.bool false) (.int .i64 0)) p 0 (forkC w6.heap.size) := by
    obtain ⟨x0, x1, x2, x3, x4, x5, x6, x7, x8⟩ := h.cp
    simp only [Nat.zero_add] at x0 x1 x2 x3 x4 x5 x6 x7 x8
    constructor <;> simp [go_sem, x0, x1, x2, x3, x4, x5, x6, x7, x8]
  have f9 : ∀ o, (put9 w6 p (.int .i64 2) .nilFunc (.bool false) (.int .i32 0) (.slice (some ⟨w6.heap.size, 0, none⟩) 2 2) (.int .i64 0) (.int .i64 0) (.bool false) (.int .i64 0)).frozen? ⟨p, o, none⟩ = false := fun o => by
    simp [h.fp o]
  generalize put9 w6 p (.int .i64 2) .nilFunc (.bool false) (.int .i32 0) (.slice (some ⟨w6.heap.size, 0, none⟩) 2 2) (.int .i64 0) (.int .i64 0) (.bool false) (.int .i64 0) = W9 at *
  rw [← s9]
  rw [← s9] at c9
  have hA : Below W9.heap.size W9 (W9.alloc (.cells #[.int .i64 qk, qi, .bool qp, .int .i32 qr, qd, .int .i64 ql, .int .i64 qm, .bool qb, .int .i64 qn, .int .i64 c6.kind, c6.is, .bool c6.plain, .int .i32 c6.r, c6.kids, .int .i64 c6.least, .int .i64 c6.most, .bool c6.brace, .int .i64 c6.n] 92)) := (Below.refl _ _).alloc (Nat.le_refl _) _
  have hn1 : Cells9 (W9.alloc (.cells #[.int .i64 qk, qi, .bool qp, .int .i32 qr, qd, .int .i64 ql, .int .i64 qm, .bool qb, .int .i64 qn, .int .i64 c6.kind, c6.is, .bool c6.plain, .int .i32 c6.r, c6.kids, .int .i64 c6.least, .int .i64 c6.most, .bool c6.brace, .int .i64 c6.n] 92)) W9.heap.size 0 ⟨qk, qi, qp, qr, qd, ql, qm, qb, qn⟩ := by constructor <;> simp
  have hn2 : Cells9 (W9.alloc (.cells #[.int .i64 qk, qi, .bool qp, .int .i32 qr, qd, .int .i64 ql, .int .i64 qm, .bool qb, .int .i64 qn, .int .i64 c6.kind, c6.is, .bool c6.plain, .int .i32 c6.r, c6.kids, .int .i64 c6.least, .int .i64 c6.most, .bool c6.brace, .int .i64 c6.n] 92)) W9.heap.size 9 c6 := by constructor <;> simp
  have hnf : ∀ o, (W9.alloc (.cells #[.int .i64 qk, qi, .bool qp, .int .i32 qr, qd, .int .i64 ql, .int .i64 qm, .bool qb, .int .i64 qn, .int .i64 c6.kind, c6.is, .bool c6.plain, .int .i32 c6.r, c6.kids, .int .i64 c6.least, .int .i64 c6.most, .bool c6.brace, .int .i64 c6.n] 92)).frozen? ⟨W9.heap.size, o, none⟩ = false := fun o => by simp [go_sem]
  generalize W9.alloc (.cells #[.int .i64 qk, qi, .bool qp, .int .i32 qr, qd, .int .i64 ql, .int .i64 qm, .bool qb, .int .i64 qn, .int .i64 c6.kind, c6.is, .bool c6.plain, .int .i32 c6.r, c6.kids, .int .i64 c6.least, .int .i64 c6.most, .bool c6.brace, .int .i64 c6.n] 92) = WA at *
  have hAs := hA.size
  have hrz := h.z.lt
  refine ⟨hM9.below hA, (h.z.like (e9 r (by omega))).like (hA.block r (by omega)), c9.like (hA.block p (by omega)), fun o => (World.frozen?_of_block (w := W9) (w' := WA) (a := ⟨p, o, none⟩) (hA.block p (by omega))).trans (f9 o), ?_, ?_⟩
  · refine h.fr.fork hF hB (by omega) (by omega) (by omega) hn1 hn2 hnf (by omega) (fun k hk => ?_)
    have hk2 : k < w6.heap.size ∧ k ≠ p := by
      rcases hk with hk | hk
      · exact ⟨(h.fr.inb k hk).2, fun e => h.np (e ▸ hk)⟩
      · have := hF.inb k hk; omega
    rw [hA.block k (by omega)]
    exact e9 k hk2.2
  · intro hm
    have hk' : p = W9.heap.size ∨ p ∈ K ++ C ∨ p ∈ K2 ++ C2 := by
      simp only [List.mem_append, List.mem_cons] at hm ⊢
      rcases hm with (hk | hk | hk) | (hk | hk) <;> simp [hk]
    rcases hk' with hk' | hk' | hk'
    · omega
    · exact h.np hk'
    · have := hF.inb p hk'; omega

/-- What the rounds of choices are walked under. -/
def CsRel (w0 : World) (b : Nat) (s : ByteArray) (r p : Nat) (ch : Nat → PRes (Re × Nat)) (d : Nat) (R : PRes (Re × Nat)) (f : Nat) (w : World) : Prop :=
  ∃ j t c K C, CsSt w0 b r p j t c K C w ∧ j ≤ s.size ∧ s.size < f + j ∧ Re.WF t ∧ forksP s ch d f t j = R

set_option maxHeartbeats 12800000 in
set_option maxRecDepth 100000 in
theorem choice_any (s : ByteArray) (hs : s.size ≤ 256) (f d : Nat) (hch : d < 50 → ChoiceSaid s f (d + 1)) (hd : d ≤ 50) : ChoiceSaid s (f + 1) d := by
  intro w b i h hi hb2 hT
  have hbl : b < w.heap.size := h.lt
  have HH := Lib.hid h
  have HT := Lib.hid hT
  have HCH := Lib.hid hch
  have hB0 : Below w.heap.size w (w.alloc zero9) := (Below.refl _ _).alloc (Nat.le_refl _) _
  have HB0 := Lib.hid hB0
  have HZ0 : Hid (Z9 (w.alloc zero9) w.heap.size) := Z9.new w
  have HR0 : Hid (choiceP s (f + 1) d i = match rowP s (choiceP s f (d + 1)) d (s.size + 1) [] i with | .error e => .error e | .ok (p, j) => forksP s (choiceP s f (d + 1)) d (s.size + 1) p j) := by
    simp only [choiceP]; rfl
  generalize choiceP s (f + 1) d i = R at *
  clear h hT hch hB0
  go_enter Tryz.func56, Tryz.ntmps56
  go_wp2_with fail
  refine (row_any (w.alloc zero9) b s i f d HCH.out hd (HH.out.below HB0.out) hs hi hb2 (Utf8Tabs_below HT.out HB0.out)).mono ?_
  rintro e w1 hr
  rcases hx : rowP s (choiceP s f (d + 1)) d (s.size + 1) [] i with ⟨en, pl⟩ | ⟨t0, j0⟩
  · rw [hx] at hr
    obtain ⟨rfl, jj, hm⟩ := hr
    refine ⟨rfl, ?_⟩
    rw [HR0.out, hx]
    exact ⟨rfl, jj, Moved.of_below HB0.out hm⟩
  · rw [hx] at hr
    obtain ⟨c9, K0, C0, rfl, hF, hm⟩ := hr
    have hbd := rowP_bd (choiceP_bd f (d + 1)) (s.size + 1) [] i j0 t0 trivial hi hx
    obtain ⟨hv1, hv2⟩ := hF.pv.one
    have HR1 : Hid (forksP s (choiceP s f (d + 1)) d (s.size + 1) t0 j0 = R) := by have h1 := HR0.out; rw [hx] at h1; exact h1.symm
    have hsz1 := hm.size
    have hsw : (w.alloc zero9).heap.size = w.heap.size + 1 := by simp
    rw [hsw] at hsz1 hF
    have HM1 := Lib.hid (Moved.of_below HB0.out hm)
    have HZ1 : Hid (Z9 w1 w.heap.size) := HZ0.out.like (by rw [Below.block hm _ (by simp)]; exact setCell_block_ne _ _ _ _ (by simp; omega))
    have HF := Lib.hid hF
    have hwf := hbd.2.2
    have hj0 := hbd.2.1
    clear hx hF hm HR0 HB0 HZ0 hsw hbd
    obtain ⟨ck, ci, cp, cr, cd, cl, cm, cb, cn⟩ := c9
    have HST : Hid (∀ W, W = w1.alloc (.cells #[.int .i64 ck, ci, .bool cp, .int .i32 cr, cd, .int .i64 cl, .int .i64 cm, .bool cb, .int .i64 cn] 92) → CsRel w b s w.heap.size w1.heap.size (choiceP s f (d + 1)) d R (s.size + 1) W) := by
      rintro W rfl
      have hA : Below w1.heap.size w1 (w1.alloc (.cells #[.int .i64 ck, ci, .bool cp, .int .i32 cr, cd, .int .i64 cl, .int .i64 cm, .bool cb, .int .i64 cn] 92)) := (Below.refl _ _).alloc (Nat.le_refl _) _
      refine ⟨j0, t0, ⟨ck, ci, cp, cr, cd, cl, cm, cb, cn⟩, K0, C0, ⟨HM1.out.below hA, HZ1.out.like (hA.block _ (by omega)), ?_, fun o => by simp [go_sem], HF.out.below hA, fun hk => ?_⟩, hj0, by omega, hwf, HR1.out⟩
      · constructor <;> simp [go_sem]
      · have := HF.out.inb _ hk; omega
    have hpb : w.heap.size < w1.heap.size := by omega
    clear HF HM1 HZ1
    generalize hpe : w1.heap.size = p at *
    go_wp2_with fail
    clear hpe
    go_loopg [] (s.size + 1) (fun g wr => CsRel w b s w.heap.size p (choiceP s f (d + 1)) d R g wr)
    case atStart => exact HST.out _ rfl
    case round =>
      obtain ⟨j, t, c, K, C, hst, hj, hfu, hwft, hR⟩ := hrel
      have HS1 := Lib.hid hst
      have HRR := Lib.hid hR
      clear hst hR HST
      go_wp2_with fail
      refine (here_below wr b s j 124 (HS1.out.mv.rd HH.out) hj (by omega) hs).mono ?_
      rintro e w2 ⟨rfl, hb⟩
      have HS2 := Lib.hid (HS1.out.below hbl hpb hb)
      clear hb HS1
      obtain ⟨hv1, hv2⟩ := HS2.out.fr.pv.one
      generalize hh : here s j 124 = hv
      have HN := Lib.hid hh
      clear hh
      obtain ⟨qk, qi, qp, qr, qd, ql, qm, qb, qn⟩ := c
      obtain ⟨g0, g1, gf⟩ := HS2.out.mv.rd HH.out
      obtain ⟨x0, x1, x2, x3, x4, x5, x6, x7, x8⟩ := HS2.out.cp
      simp only [Nat.zero_add] at x0 x1 x2 x3 x4 x5 x6 x7 x8
      obtain ⟨z0, z1, z2, z3, z4, z5, z6, z7, z8, zf⟩ := HS2.out.z
      cases hv
      · have hE : (.ok (t, j) : PRes (Re × Nat)) = R := by
          have h1 := HRR.out
          obtain ⟨gk', rfl⟩ : ∃ g', gk = g' + 1 := ⟨gk - 1, by omega⟩
          simpa [forksP, HN.out] using h1
        have HE := Lib.hid hE.symm
        clear hE
        go_wp2_with fail
        refine bodyPost_ret (v := P9.agg ⟨qk, qi, qp, qr, qd, ql, qm, qb, qn⟩) (by simp [results, Tryz.results56, go_sem, *]) rfl ?_
        exact endRe HS2.out.fr HS2.out.mv (Nat.le_refl _) (Nat.lt_succ_self _) HE.out
      · have hlt : j < s.size := here_lt HN.out
        have hR1 : ∀ x, Rx.rowP s (choiceP s f (d + 1)) d (s.size + 1) [] (j + 1) = x → (match x with | .error e => (.error e : PRes (Re × Nat)) | .ok (q, k) => forksP s (choiceP s f (d + 1)) d (gk - 1) (.fork t q) k) = R := by
          intro x hx
          have h1 := HRR.out
          obtain ⟨gk', rfl⟩ : ∃ g', gk = g' + 1 := ⟨gk - 1, by omega⟩
          rw [forksP, if_pos HN.out, hx] at h1
          exact h1
        have HS3 : Hid (CsSt w b w.heap.size p (j + 1) t ⟨qk, qi, qp, qr, qd, ql, qm, qb, qn⟩ K C (w2.setCell ⟨b, 1, none⟩ (.int .i64 ((j : Int) + 1)))) := HS2.out.moved hbl hpb (Moved.of_set (j := j + 1) (Below.refl _ _))
        have HROW := Lib.hid (row_any (w2.setCell ⟨b, 1, none⟩ (.int .i64 ((j : Int) + 1))).drew b s (j + 1) f d HCH.out hd ((HS3.out.mv.below (Below.refl _ _).drew).rd HH.out) hs (by omega) hb2 (tabs_moved HT.out (HS3.out.mv.below (Below.refl _ _).drew) hb2))
        go_wp2_with fail
        generalize hW3 : w2.setCell ⟨b, 1, none⟩ (.int .i64 ((j : Int) + 1)) = w3 at *
        have hx9 := HS3.out.cp
        obtain ⟨x0, x1, x2, x3, x4, x5, x6, x7, x8⟩ := hx9
        simp only [Nat.zero_add] at x0 x1 x2 x3 x4 x5 x6 x7 x8
        rcases hx : Rx.rowP s (choiceP s f (d + 1)) d (s.size + 1) [] (j + 1) with ⟨en, pl⟩ | ⟨q, k2⟩
        · rw [hx] at HROW
          have HI : Hid (R = .error (en, pl)) := (hR1 _ hx).symm
          clear hx hR1 hW3
          refine wp_region_any (by kernel_rfl) ?_
          change wpAny _ _ _ _ _ _ _ (World.drew _)
          refine wpAny_take (i := 1) (v := .pointer (some ⟨b, 0, none⟩)) rfl (by kernel_rfl) (by kernel_rfl) (by kernel_rfl) (fun _ _ _ h => h) (Or.inl ⟨by rfl, by intro w; go_simp⟩) ?_
          refine wpAny_take (i := 2) (v := .int .i64 (d : Int)) rfl (by kernel_rfl) (by kernel_rfl) (by kernel_rfl) (fun _ _ _ h => h) (Or.inl ⟨by rfl, by intro w; go_simp⟩) ?_
          refine wpAny_ready (rs := [0, 3]) (by kernel_rfl) (by simp) ?_
          refine AllReady.cons rfl (fun Kk hKk => ?_) ?_
          · skip
            go_simp
            refine hKk _ _ ?_
            clear hKk Kk
            refine wpAny_ready (rs := [3]) (by kernel_rfl) (by simp) ?_
            refine AllReady.cons rfl (fun Kk hKk => ?_) ?_
            · skip
              go_simp
              refine HROW.out.mono ?_
              rintro e w5 ⟨rfl, jj, hm⟩
              exact ⟨rfl, by rw [HI.out]; exact ⟨rfl, jj, (HS3.out.mv.below (Below.refl _ _).drew).trans hm⟩⟩
            · exact AllReady.nil
          · skip
            refine AllReady.cons rfl (fun Kk hKk => ?_) ?_
            · skip
              go_simp
              refine HROW.out.mono ?_
              rintro e w5 ⟨rfl, jj, hm⟩
              exact ⟨rfl, by rw [HI.out]; exact ⟨rfl, jj, (HS3.out.mv.below (Below.refl _ _).drew).trans hm⟩⟩
            · exact AllReady.nil
        · rw [hx] at HROW
          have hq := rowP_bd (choiceP_bd f (d + 1)) (s.size + 1) [] (j + 1) k2 q trivial (by omega) hx
          have HI := Lib.hid (hR1 _ hx)
          clear hx hR1 hW3
          refine wp_region_any (by kernel_rfl) ?_
          change wpAny _ _ _ _ _ _ _ (World.drew _)
          refine wpAny_take (i := 1) (v := .pointer (some ⟨b, 0, none⟩)) rfl (by kernel_rfl) (by kernel_rfl) (by kernel_rfl) (fun _ _ _ h => h) (Or.inl ⟨by rfl, by intro w; go_simp⟩) ?_
          refine wpAny_take (i := 2) (v := .int .i64 (d : Int)) rfl (by kernel_rfl) (by kernel_rfl) (by kernel_rfl) (fun _ _ _ h => h) (Or.inl ⟨by rfl, by intro w; go_simp⟩) ?_
          refine wpAny_ready (rs := [0, 3]) (by kernel_rfl) (by simp) ?_
          refine AllReady.cons rfl (fun Kk hKk => ?_) ?_
          · skip
            go_simp
            refine hKk _ _ ?_
            clear hKk Kk
            refine wpAny_ready (rs := [3]) (by kernel_rfl) (by simp) ?_
            refine AllReady.cons rfl (fun Kk hKk => ?_) ?_
            · skip
              go_simp
              refine HROW.out.mono ?_
              rintro e w6 ⟨c6, K2, C2, rfl, hF2, hm⟩
              have HS6 := Lib.hid ((HS3.out.below hbl hpb (Below.refl _ _).drew).moved hbl hpb hm)
              obtain ⟨y0, y1, y2, y3, y4, y5, y6, y7, y8⟩ := HS6.out.cp
              simp only [Nat.zero_add] at y0 y1 y2 y3 y4 y5 y6 y7 y8
              have yf := HS6.out.fp
              have hp6 := HS6.out.cp.lt
              obtain ⟨hw1, hw2⟩ := hF2.pv.one
              have HF2 := Lib.hid hF2
              have hm6 := hm.size
              clear hF2 hm
              refine hKk _ _ ?_
              clear hKk Kk
              refine wpAny_ready (rs := [4]) (by kernel_rfl) (by simp) ?_
              refine AllReady.cons rfl (fun Kk hKk => ?_) ?_
              · skip
                go_simp
                refine hKk _ _ ?_
                clear hKk Kk
                refine wpAny_ready (rs := [5]) (by kernel_rfl) (by simp) ?_
                refine AllReady.cons rfl (fun Kk hKk => ?_) ?_
                · skip
                  go_simp
                  refine hKk _ _ ?_
                  clear hKk Kk
                  refine wpAny_ready (rs := [6]) (by kernel_rfl) (by simp) ?_
                  refine AllReady.cons rfl (fun Kk hKk => ?_) ?_
                  · skip
                    go_simp
                    refine hKk _ _ ?_
                    clear hKk Kk
                    refine wpAny_done (by kernel_rfl) ?_ _
                    go_wp2_with fail
                    go_roundg (gk - 1)
                    case measure => omega
                    case rel => exact ⟨k2, _, _, _, _, csNext HS6.out HF2.out (Nat.le_refl _) hpb (fun k hk => (HS3.out.fr.inb k hk).2) HS3.out.cp.lt, hq.2.1, by omega, ⟨hwft, hq.2.2⟩, HI.out⟩
                  · exact AllReady.nil
                · exact AllReady.nil
              · exact AllReady.nil
            · exact AllReady.nil
          · skip
            refine AllReady.cons rfl (fun Kk hKk => ?_) ?_
            · skip
              go_simp
              refine HROW.out.mono ?_
              rintro e w6 ⟨c6, K2, C2, rfl, hF2, hm⟩
              have HS6 := Lib.hid ((HS3.out.below hbl hpb (Below.refl _ _).drew).moved hbl hpb hm)
              obtain ⟨y0, y1, y2, y3, y4, y5, y6, y7, y8⟩ := HS6.out.cp
              simp only [Nat.zero_add] at y0 y1 y2 y3 y4 y5 y6 y7 y8
              have yf := HS6.out.fp
              have hp6 := HS6.out.cp.lt
              obtain ⟨hw1, hw2⟩ := hF2.pv.one
              have HF2 := Lib.hid hF2
              have hm6 := hm.size
              clear hF2 hm
              refine hKk _ _ ?_
              clear hKk Kk
              refine wpAny_ready (rs := [0]) (by kernel_rfl) (by simp) ?_
              refine AllReady.cons rfl (fun Kk hKk => ?_) ?_
              · skip
                go_simp
                refine hKk _ _ ?_
                clear hKk Kk
                refine wpAny_ready (rs := [4]) (by kernel_rfl) (by simp) ?_
                refine AllReady.cons rfl (fun Kk hKk => ?_) ?_
                · skip
                  go_simp
                  refine hKk _ _ ?_
                  clear hKk Kk
                  refine wpAny_ready (rs := [5]) (by kernel_rfl) (by simp) ?_
                  refine AllReady.cons rfl (fun Kk hKk => ?_) ?_
                  · skip
                    go_simp
                    refine hKk _ _ ?_
                    clear hKk Kk
                    refine wpAny_ready (rs := [6]) (by kernel_rfl) (by simp) ?_
                    refine AllReady.cons rfl (fun Kk hKk => ?_) ?_
                    · skip
                      go_simp
                      refine hKk _ _ ?_
                      clear hKk Kk
                      refine wpAny_done (by kernel_rfl) ?_ _
                      go_wp2_with fail
                      go_roundg (gk - 1)
                      case measure => omega
                      case rel => exact ⟨k2, _, _, _, _, csNext HS6.out HF2.out (Nat.le_refl _) hpb (fun k hk => (HS3.out.fr.inb k hk).2) HS3.out.cp.lt, hq.2.1, by omega, ⟨hwft, hq.2.2⟩, HI.out⟩
                    · exact AllReady.nil
                  · exact AllReady.nil
                · exact AllReady.nil
              · exact AllReady.nil
            · exact AllReady.nil

/-- Choices, as deep as they may be. -/
theorem choice_all (s : ByteArray) (hs : s.size ≤ 256) : ∀ (f d : Nat), f + d = 51 → d ≤ 50 → ChoiceSaid s f d
  | 0, d, h, hd => by omega
  | f + 1, d, h, hd => choice_any s hs f d (fun h50 => choice_all s hs f (d + 1) (by omega) (by omega)) hd

end Go.Proofs.YtgcmjidphoklkaaGreatDoor.Rx
