/- Walks over layer 5's reader: how often. -/
import Derived.Test.YtgcmjidphoklkaaGreatDoorRxTree
import Derived.Test.YtgcmjidphoklkaaGreatDoorRxWh
namespace Go.Proofs.YtgcmjidphoklkaaGreatDoor.Rx
open Go.RowKit Go.Sort

theorem run_store_one (P : Program) (w : World) (a : Addr) (m : Mode) (v : Value) (hv : v.oneCell' = true) : (store a v m).run P w = stored P w a v m := run_store P w a v m hv

attribute [local go_sem] run_store_one

theorem Sep.cons {k : Nat} {K C : List Nat} (h : Sep K C) (h1 : k ∉ K) (h2 : k ∉ C) : Sep (k :: K) C :=
  ⟨List.nodup_cons.2 ⟨h1, h.nodup⟩, fun i hi => by
    rcases List.mem_cons.1 hi with rfl | hi
    · exact h2
    · exact h.apart i hi⟩

/-- The cells of a loop whose kid lies at block kb. -/
abbrev loopP (kb : Nat) (m n : Int) (br : Bool) : P9 := ⟨3, .nilFunc, false, 0, .slice (some ⟨kb, 0, none⟩) 1 1, m, n, br, 0⟩

theorem Fresh.loop {B : Nat} {w w' : World} {b j : Nat} {k : Re} {c : P9} {K C : List Nat} {kb : Nat} {m n : Int} {br : Bool} (h : Fresh B w k c K C) (hB : b < B) (hBw : B ≤ w.heap.size) (hm : Moved w w' b j) (hkb : w.heap.size ≤ kb) (hc : Cells9 w' kb 0 c)
    (hf : ∀ j, w'.frozen? ⟨kb, j, none⟩ = false) : Fresh B w' (.loop k m n br) (loopP kb m n br) (kb :: K) C := by
  have h' := h.moved hB hm
  have hlt : kb < w'.heap.size := lt_of_cell hc.c0
  refine ⟨⟨rfl, rfl, rfl, rfl, rfl, rfl, rfl, rfl, .inr ⟨kb, 1, K, rfl, rfl, hf, c, K, [], C, [], by simp, by simp, hc, h'.pv, rfl, rfl⟩⟩, ?_, h.sep.cons ?_ ?_⟩
  · exact h'.inb.cons (by omega) hlt
  · intro hm; have := h.inb kb (List.mem_append_left _ hm); omega
  · intro hm; have := h.inb kb (List.mem_append_right _ hm); omega

/-- The state while it is read how often: the boxes of the part (x), of the answer (r), of the kid (kb), of the loop (q). -/
structure TSt (w0 : World) (b x r kb q j : Nat) (c : P9) (w : World) : Prop where
  mv : Moved w0 w b j
  z : Z9 w r
  cx : Cells9 w x 0 c
  ck : Cells9 w kb 0 c
  fk : ∀ j, w.frozen? ⟨kb, j, none⟩ = false
  cq : Cells9 w q 0 (loopP kb 0 (-1) false)
  fq : ∀ j, w.frozen? ⟨q, j, none⟩ = false

theorem Z9.lt {w : World} {r : Nat} (h : Z9 w r) : r < w.heap.size := lt_of_cell h.c0
theorem Cells9.lt {w : World} {b o : Nat} {c : P9} (h : Cells9 w b o c) : b < w.heap.size := lt_of_cell h.c0

theorem TSt.like {w0 w w' : World} {b x r kb q j j' : Nat} {c : P9} (h : TSt w0 b x r kb q j c w) (hm : Moved w0 w' b j') (e : ∀ k, k = x ∨ k = r ∨ k = kb ∨ k = q → w'.heap[k]? = w.heap[k]?) : TSt w0 b x r kb q j' c w' :=
  ⟨hm, h.z.like (e r (.inr (.inl rfl))), h.cx.like (e x (.inl rfl)), h.ck.like (e kb (.inr (.inr (.inl rfl)))), fun j => (World.frozen?_of_block (w := w) (e kb (.inr (.inr (.inl rfl))))).trans (h.fk j),
    h.cq.like (e q (.inr (.inr (.inr rfl)))), fun j => (World.frozen?_of_block (w := w) (e q (.inr (.inr (.inr rfl))))).trans (h.fq j)⟩

theorem TSt.below {w0 w w' : World} {b x r kb q j : Nat} {c : P9} (h : TSt w0 b x r kb q j c w) (hb : Below w.heap.size w w') : TSt w0 b x r kb q j c w' :=
  h.like (h.mv.below hb) fun k hk => hb.block k (by rcases hk with rfl | rfl | rfl | rfl; exact h.cx.lt; exact h.z.lt; exact h.ck.lt; exact h.cq.lt)

theorem TSt.moved {w0 w w' : World} {b x r kb q j j' : Nat} {c : P9} (h : TSt w0 b x r kb q j c w) (h1 : b ≠ x) (h2 : b ≠ r) (h3 : b ≠ kb) (h4 : b ≠ q) (m : Moved w w' b j') : TSt w0 b x r kb q j' c w' :=
  h.like (h.mv.trans m) fun k hk => by
    have hlt : k < w.heap.size := by rcases hk with rfl | rfl | rfl | rfl; exact h.cx.lt; exact h.z.lt; exact h.ck.lt; exact h.cq.lt
    rw [Below.block m k hlt]
    exact setCell_block_ne _ _ _ _ (by rcases hk with rfl | rfl | rfl | rfl <;> (simp; omega))

theorem Moved.other {w w1 : World} {b j k o : Nat} {v : Value} (m : Moved w w1 b j) (hk : w.heap.size ≤ k) : Moved w (w1.setCell ⟨k, o, none⟩ v) b j :=
  Below.setCell m (p := ⟨k, o, none⟩) hk v

theorem Cells9.other {w : World} {b : Nat} {c : P9} {k o : Nat} {v : Value} (h : Cells9 w b 0 c) (hne : b ≠ k) : Cells9 (w.setCell ⟨k, o, none⟩ v) b 0 c := h.like (setCell_block_ne w ⟨k, o, none⟩ v b hne)

/-- The end of a call that hands back a loop, laid into its own block r. -/
theorem timesEnd {w W : World} {b B j r kb : Nat} {p : Re} {c : P9} {K C : List Nat} {m n : Int} {br : Bool} {x : PRes (Re × Nat)} {a0 a1 a2 a3 a4 a5 a6 a7 a8 : Value} (hF : Fresh B w p c K C) (hB : b < B) (hBw : B ≤ w.heap.size) (M : Moved w W b j)
    (hk : Cells9 W kb 0 c) (hkf : ∀ j, W.frozen? ⟨kb, j, none⟩ = false) (hr : w.heap.size ≤ r) (hrk : kb ≠ r) (hkb : w.heap.size ≤ kb) (hx : x = .ok (.loop p m n br, j)) :
    ReadsRe B w b x (.returned (loopP kb m n br).agg) (put9 W r a0 a1 a2 a3 a4 a5 a6 a7 a8) := by
  subst hx
  have hM : Moved w (put9 W r a0 a1 a2 a3 a4 a5 a6 a7 a8) b j := put9_below M r hr _ _ _ _ _ _ _ _ _
  have e : (put9 W r a0 a1 a2 a3 a4 a5 a6 a7 a8).heap[kb]? = W.heap[kb]? := put9_block _ _ _ _ _ _ _ _ _ _ _ hrk
  generalize put9 W r a0 a1 a2 a3 a4 a5 a6 a7 a8 = W' at *
  have hk' := hk.like e
  have hf' : ∀ j, W'.frozen? ⟨kb, j, none⟩ = false := fun j => (World.frozen?_of_block (w := W) (w' := W') (a := ⟨kb, j, none⟩) e).trans (hkf j)
  exact ⟨loopP kb m n br, kb :: K, C, rfl, hF.loop hB hBw hM hkb hk' hf', hM⟩

/-- The end of a call that hands back the part that came in. -/
theorem timesSame {w W : World} {b B j r : Nat} {p : Re} {c : P9} {K C : List Nat} {x : PRes (Re × Nat)} {a0 a1 a2 a3 a4 a5 a6 a7 a8 : Value} (hF : Fresh B w p c K C) (hB : b < B) (M : Moved w W b j) (hr : w.heap.size ≤ r) (hx : x = .ok (p, j)) :
    ReadsRe B w b x (.returned c.agg) (put9 W r a0 a1 a2 a3 a4 a5 a6 a7 a8) := by
  subst hx
  have hM : Moved w (put9 W r a0 a1 a2 a3 a4 a5 a6 a7 a8) b j := put9_below M r hr _ _ _ _ _ _ _ _ _
  exact ⟨c, K, C, rfl, hF.moved hB hM, hM⟩

set_option maxHeartbeats 3200000 in
theorem times_any (w : World) (b B : Nat) (s : ByteArray) (i : Nat) (p : Re) (c : P9) (K C : List Nat) (h : Rd w b s i) (hs : s.size ≤ 256) (hi : i ≤ s.size) (hB : b < B) (hBw : B ≤ w.heap.size) (hp : Fresh B w p c K C) :
    Calls Tryz.prog 88 #[.pointer (some ⟨b, 0, none⟩), c.agg] w (ReadsRe B w b (timesP s p i)) := by
  have HH := Lib.hid h
  have HP := Lib.hid hp
  obtain ⟨hv1, hv2⟩ := hp.pv.one
  obtain ⟨ck, ci, cp, cr, cd, cl, cm, cb, cn⟩ := c
  have HT0 : Hid (∀ W, W = (((w.alloc (.cells #[.int .i64 ck, ci, .bool cp, .int .i32 cr, cd, .int .i64 cl, .int .i64 cm, .bool cb, .int .i64 cn] 92)).alloc zero9).alloc (.cells #[.int .i64 ck, ci, .bool cp, .int .i32 cr, cd, .int .i64 cl, .int .i64 cm, .bool cb, .int .i64 cn] 92)).alloc
      (.cells #[.int .i64 3, .nilFunc, .bool false, .int .i32 0, .slice (some ⟨w.heap.size + 1 + 1, 0, none⟩) 1 1, .int .i64 0, .int .i64 (-1), .bool false, .int .i64 0] 92) →
      TSt w b w.heap.size (w.heap.size + 1) (w.heap.size + 1 + 1) (w.heap.size + 1 + 1 + 1) i ⟨ck, ci, cp, cr, cd, cl, cm, cb, cn⟩ W) := by
    rintro W rfl
    refine ⟨h.here.below ?_, ?_, ?_, ?_, ?_, ?_, ?_⟩
    · exact ((((Below.refl _ _).alloc (Nat.le_refl _) _).alloc (by simp) _).alloc (by simp; omega) _).alloc (by simp; omega) _
    · constructor <;> simp [go_sem]
    · constructor <;> simp [go_sem]
    · constructor <;> simp [go_sem]
    · intro j; simp [go_sem]
    · constructor <;> simp [go_sem]
    · intro j; simp [go_sem]
  clear hp h
  go_enter Tryz.func88, Tryz.ntmps88
  go_wp2_with fail
  have HT1 := Lib.hid (HT0.out _ rfl)
  clear HT0
  refine (here_below _ b s i 42 (HT1.out.mv.rd HH.out) hi (by omega) hs).mono ?_
  rintro e w1 ⟨rfl, hb⟩
  have HT2 := Lib.hid (HT1.out.below hb)
  clear hb
  generalize hn : here s i 42 = v
  have HN1 := Lib.hid hn
  clear hn
  cases v
  · go_wp2_with fail
    refine (here_below w1 b s i 43 (HT2.out.mv.rd HH.out) hi (by omega) hs).mono ?_
    rintro e w2 ⟨rfl, hb⟩
    have HT3 := Lib.hid (HT2.out.below hb)
    clear hb
    generalize hn : here s i 43 = v
    have HN2 := Lib.hid hn
    clear hn
    cases v
    · go_wp2_with fail
      refine (here_below w2 b s i 63 (HT3.out.mv.rd HH.out) hi (by omega) hs).mono ?_
      rintro e w3 ⟨rfl, hb⟩
      have HT4 := Lib.hid (HT3.out.below hb)
      clear hb
      generalize hn : here s i 63 = v
      have HN3 := Lib.hid hn
      clear hn
      cases v
      · go_wp2_with fail
        refine (here_below w3 b s i 123 (HT4.out.mv.rd HH.out) hi (by omega) hs).mono ?_
        rintro e w4 ⟨rfl, hb⟩
        have HT5 := Lib.hid (HT4.out.below hb)
        clear hb
        generalize hn : here s i 123 = v
        have HN4 := Lib.hid hn
        clear hn
        cases v
        · obtain ⟨z0, z1, z2, z3, z4, z5, z6, z7, z8, zf⟩ := HT5.out.z
          obtain ⟨x0, x1, x2, x3, x4, x5, x6, x7, x8⟩ := HT5.out.cx
          simp only [Nat.zero_add] at x0 x1 x2 x3 x4 x5 x6 x7 x8
          go_wp2_with fail
          refine bodyPost_ret (v := P9.agg ⟨ck, ci, cp, cr, cd, cl, cm, cb, cn⟩) (by simp [results, Tryz.results88, go_sem, *]) rfl ?_
          exact timesSame HP.out hB HT5.out.mv (by omega) (by unfold timesP; simp [HN1.out, HN2.out, HN3.out, HN4.out])
        · have hlt : i < s.size := here_lt HN4.out
          have HBR := Lib.hid (braces_any w4 b s i (HT5.out.mv.rd HH.out) hs hlt)
          go_wp2_with fail
          refine HBR.out.mono ?_
          rintro e w5 hr
          clear HBR
          rcases hx : bracesP s i with ⟨en, pl⟩ | ⟨m, n, j⟩
          · rw [hx] at hr
            obtain ⟨rfl, jj, hm⟩ := hr
            refine ⟨rfl, ?_⟩
            rw [show timesP s p i = .error (en, pl) from by unfold timesP; simp [HN1.out, HN2.out, HN3.out, HN4.out, hx]]
            exact ⟨rfl, jj, HT5.out.mv.trans hm⟩
          · rw [hx] at hr
            obtain ⟨rfl, hm⟩ := hr
            have HX := Lib.hid hx
            have HT6 := Lib.hid (HT5.out.moved (by omega) (by omega) (by omega) (by omega) hm)
            clear hx hm
            obtain ⟨g0, g1, gf⟩ := HT6.out.mv.rd HH.out
            obtain ⟨z0, z1, z2, z3, z4, z5, z6, z7, z8, zf⟩ := HT6.out.z
            obtain ⟨q0, q1, q2, q3, q4, q5, q6, q7, q8⟩ := HT6.out.cq
            have qf := HT6.out.fq
            simp only [Nat.zero_add] at q0 q1 q2 q3 q4 q5 q6 q7 q8
            go_wp2_with fail
            refine bodyPost_ret (v := (loopP (w.heap.size + 1 + 1) m (n) true).agg) (by simp [results, Tryz.results88, go_sem, *]) rfl ?_
            exact timesEnd HP.out hB hBw (((HT6.out.mv.other (by omega)).other (by omega)).other (by omega)) (((HT6.out.ck.other (by omega)).other (by omega)).other (by omega)) (by intro j; simp [HT6.out.fk]) (by omega) (by omega) (by omega) (by unfold timesP; simp [HN1.out, HN2.out, HN3.out, HN4.out, HX.out])
      · have hlt : i < s.size := here_lt HN3.out
        obtain ⟨g0, g1, gf⟩ := HT4.out.mv.rd HH.out
        obtain ⟨z0, z1, z2, z3, z4, z5, z6, z7, z8, zf⟩ := HT4.out.z
        obtain ⟨q0, q1, q2, q3, q4, q5, q6, q7, q8⟩ := HT4.out.cq
        have qf := HT4.out.fq
        simp only [Nat.zero_add] at q0 q1 q2 q3 q4 q5 q6 q7 q8
        go_wp2_with fail
        refine bodyPost_ret (v := (loopP (w.heap.size + 1 + 1) 0 (1) false).agg) (by simp [results, Tryz.results88, go_sem, *]) rfl ?_
        exact timesEnd HP.out hB hBw ((HT4.out.mv.other (by omega)).trans (Moved.of_set (j := i + 1) (Below.refl _ _))) ((HT4.out.ck.other (by omega)).other (by omega)) (by intro j; simp [HT4.out.fk]) (by omega) (by omega) (by omega) (by unfold timesP; simp [HN1.out, HN2.out, HN3.out])
    · have hlt : i < s.size := here_lt HN2.out
      obtain ⟨g0, g1, gf⟩ := HT3.out.mv.rd HH.out
      obtain ⟨z0, z1, z2, z3, z4, z5, z6, z7, z8, zf⟩ := HT3.out.z
      obtain ⟨q0, q1, q2, q3, q4, q5, q6, q7, q8⟩ := HT3.out.cq
      have qf := HT3.out.fq
      simp only [Nat.zero_add] at q0 q1 q2 q3 q4 q5 q6 q7 q8
      go_wp2_with fail
      refine bodyPost_ret (v := (loopP (w.heap.size + 1 + 1) 1 (-1) false).agg) (by simp [results, Tryz.results88, go_sem, *]) rfl ?_
      exact timesEnd HP.out hB hBw ((HT3.out.mv.other (by omega)).trans (Moved.of_set (j := i + 1) (Below.refl _ _))) ((HT3.out.ck.other (by omega)).other (by omega)) (by intro j; simp [HT3.out.fk]) (by omega) (by omega) (by omega) (by unfold timesP; simp [HN1.out, HN2.out])
  · have hlt : i < s.size := here_lt HN1.out
    obtain ⟨g0, g1, gf⟩ := HT2.out.mv.rd HH.out
    obtain ⟨z0, z1, z2, z3, z4, z5, z6, z7, z8, zf⟩ := HT2.out.z
    obtain ⟨q0, q1, q2, q3, q4, q5, q6, q7, q8⟩ := HT2.out.cq
    have qf := HT2.out.fq
    simp only [Nat.zero_add] at q0 q1 q2 q3 q4 q5 q6 q7 q8
    go_wp2_with fail
    refine bodyPost_ret (v := (loopP (w.heap.size + 1 + 1) 0 (-1) false).agg) (by simp [results, Tryz.results88, go_sem, *]) rfl ?_
    exact timesEnd HP.out hB hBw (HT2.out.mv.trans (Moved.of_set (j := i + 1) (Below.refl _ _))) (HT2.out.ck.other (by omega)) (by intro j; simp [HT2.out.fk]) (by omega) (by omega) (by omega) (by unfold timesP; simp [HN1.out])

end Go.Proofs.YtgcmjidphoklkaaGreatDoor.Rx
