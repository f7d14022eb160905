/- Walks over layer 5's reader: what may be repeated. -/
import Derived.Test.YtgcmjidphoklkaaGreatDoorRxWi
import Derived.Test.YtgcmjidphoklkaaGreatDoorRxWg
import Derived.Test.YtgcmjidphoklkaaGreatDoorRxBd
namespace Go.Proofs.YtgcmjidphoklkaaGreatDoor.Rx
open Go.RowKit Go.Sort

attribute [local go_sem] run_store_one

set_option maxHeartbeats 400000 in
theorem atom1_any (c : Int) (w : World) : Calls Tryz.prog 94 #[.int .i32 c] w fun e w' => e = .returned (.bool (c != 10)) ∧ w = w' := by
  go_enter Tryz.func94, Tryz.ntmps94
  go_wp2
  go_ret
  exact ⟨rfl, rfl⟩

theorem isP_dot (w : World) : IsP w [] (.func (.func 94) #[] #[]) (fun x => x != 10) :=
  ⟨_, _, rfl, enters Tryz.func94 (by kernel_rfl) rfl, fun w' _ c => (atom1_any c w').mono fun _ _ ⟨he, hw⟩ => ⟨he, by subst hw; exact Below.refl _ _⟩⟩

theorem Sep.none (C : List Nat) : Sep [] C := ⟨List.nodup_nil, fun _ h => by cases h⟩

/-- A part of one rune, as a part. -/
theorem Fresh.one {B : Nat} {w : World} {o : One} {g : FuncId} {cap : Array Value} {C : List Nat} (hp : IsP w C (.func (.func g) #[] cap) o.p) (hC : InB B w.heap.size C) : Fresh B w o.re (oneP o (.func (.func g) #[] cap)) [] C :=
  ⟨⟨rfl, hp, rfl, rfl, rfl, rfl, rfl, rfl, rfl, rfl⟩, by simpa using hC, Sep.none C⟩

/-- The end of a call that hands back a part, laid into its own block r. -/
theorem endRe {w W : World} {b j r B : Nat} {t : Re} {c : P9} {K C : List Nat} {x : PRes (Re × Nat)} {a0 a1 a2 a3 a4 a5 a6 a7 a8 : Value} (hF : Fresh B W t c K C) (M : Moved w W b j) (hr : w.heap.size ≤ r) (hrB : r < B) (hx : x = .ok (t, j)) :
    ReadsRe w.heap.size w b x (.returned c.agg) (put9 W r a0 a1 a2 a3 a4 a5 a6 a7 a8) := by
  subst hx
  have hM : Moved w (put9 W r a0 a1 a2 a3 a4 a5 a6 a7 a8) b j := put9_below M r hr _ _ _ _ _ _ _ _ _
  have hs : (put9 W r a0 a1 a2 a3 a4 a5 a6 a7 a8).heap.size = W.heap.size := put9_size _ _ _ _ _ _ _ _ _ _ _
  have e : ∀ k, k ≠ r → (put9 W r a0 a1 a2 a3 a4 a5 a6 a7 a8).heap[k]? = W.heap[k]? := fun k hk => put9_block _ _ _ _ _ _ _ _ _ _ _ hk
  generalize put9 W r a0 a1 a2 a3 a4 a5 a6 a7 a8 = W' at *
  refine ⟨c, K, C, rfl, ⟨hF.pv.like ⟨fun k hk => e k (by have := hF.inb k hk; omega), by omega⟩, ?_, hF.sep⟩, hM⟩
  rw [hs]; exact hF.inb.mono (by omega) (Nat.le_refl _)

theorem Moved.of_set' {w w1 : World} {b j : Nat} {x : Int} (hx : x = (j : Int)) (h : Below w.heap.size w w1) : Moved w (w1.setCell ⟨b, 1, none⟩ (.int .i64 x)) b j := by
  subst hx; exact Moved.of_set h

/-- What a call of 'choice' does, so deep and with so much in reserve. -/
def ChoiceSaid (s : ByteArray) (f d : Nat) : Prop := ∀ (w : World) (b i : Nat), Rd w b s i → i ≤ s.size → 2 ≤ b → Lib.Utf8Tabs 0 1 w →
  Calls Tryz.prog 56 #[.pointer (some ⟨b, 0, none⟩), .int .i64 d] w (ReadsRe w.heap.size w b (choiceP s f d i))

/-- The state in 'atom': the reader at j, the answer's own block untouched. -/
structure ASt (w0 : World) (b r j : Nat) (w : World) : Prop where
  mv : Moved w0 w b j
  z : Z9 w r

theorem ASt.below {w0 w w' : World} {b r j : Nat} (h : ASt w0 b r j w) (hb : Below w.heap.size w w') : ASt w0 b r j w' := ⟨h.mv.below hb, h.z.like (hb.block r h.z.lt)⟩
theorem ASt.moved {w0 w w' : World} {b r j k : Nat} (h : ASt w0 b r j w) (hne : b ≠ r) (m : Moved w w' b k) : ASt w0 b r k w' :=
  ⟨h.mv.trans m, h.z.like (by rw [Below.block m r h.z.lt]; exact setCell_block_ne _ _ _ _ (by simp; omega))⟩

theorem liftO_err {x : PRes (One × Nat)} {en pl : Int} (h : x = .error (en, pl)) : liftO x = .error (en, pl) := by subst h; rfl
theorem liftO_ok {x : PRes (One × Nat)} {o : One} {j : Nat} (h : x = .ok (o, j)) : liftO x = .ok (o.re, j) := by subst h; rfl

theorem atomP_eq {s : ByteArray} {ch : Nat → PRes (Re × Nat)} {d i : Nat} {c : Int} (hc : peekC s i = c) : atomP s ch d i =
    if c = 46 then .ok ((setP fun x => x != 10).re, i + 1) else if c = 92 then liftO (escapeP s i) else if c = 91 then liftO (wholeClass s i) else if c = 40 then groupP s ch d i
    else if signP c = true then .error (50, i) else .ok ((onlyP c).re, i + peekN s i) := by
  unfold atomP; rw [hc]

set_option maxHeartbeats 3200000 in
theorem atom_any (w : World) (b : Nat) (s : ByteArray) (i f d : Nat) (hch : d < 50 → ChoiceSaid s f (d + 1)) (hd : d ≤ 50) (h : Rd w b s i) (hs : s.size ≤ 256) (hi : i ≤ s.size) (hb2 : 2 ≤ b) (hT : Lib.Utf8Tabs 0 1 w) :
    Calls Tryz.prog 89 #[.pointer (some ⟨b, 0, none⟩), .int .i64 d] w (ReadsRe w.heap.size w b (atomP s (choiceP s f (d + 1)) d i)) := by
  have hbl : b < w.heap.size := h.lt
  have HH := Lib.hid h
  have HT := Lib.hid hT
  have HCH := Lib.hid hch
  have HA0 : Hid (ASt w b w.heap.size i (w.alloc zero9)) := ⟨h.here.below ((Below.refl _ _).alloc (Nat.le_refl _) _), Z9.new w⟩
  clear h hT hch
  go_enter Tryz.func89, Tryz.ntmps89
  go_wp2_with fail
  refine (peek_any _ b s i (HA0.out.mv.rd HH.out) hs hi (tabs_moved HT.out HA0.out.mv hb2)).mono ?_
  rintro e w1 ⟨rfl, hb⟩
  have HA1 := Lib.hid (HA0.out.below hb)
  clear hb HA0
  obtain ⟨g0, g1, gf⟩ := HA1.out.mv.rd HH.out
  obtain ⟨z0, z1, z2, z3, z4, z5, z6, z7, z8, zf⟩ := HA1.out.z
  obtain ⟨c, hc⟩ : ∃ c, peekC s i = c := ⟨_, rfl⟩
  rw [hc]
  have HC := Lib.hid hc
  clear hc
  go_wp2_with fail
  · have hc : c = 46 := by have h := (by assumption : (c == 46) = true); simpa using h
    have hlt : i < s.size := peekC_lt (by rw [HC.out, hc]; decide)
    have HA2 : Hid (ASt w b w.heap.size (i + 1) (w1.setCell ⟨b, 1, none⟩ (.int .i64 ((i : Int) + 1)))) := HA1.out.moved (by omega) (Moved.of_set (j := i + 1) (Below.refl _ _))
    have hsz := HA1.out.z.lt
    refine (set_any _ w1.heap.size _ _ _ (isP_dot _) (InB.nil _ _)).mono ?_
    rintro e w3 ⟨rfl, hp, hC, hb⟩
    have HA3 := Lib.hid (HA2.out.below hb)
    obtain ⟨g, cap, hgc⟩ : ∃ g cap, (Value.func (.func 94) #[] #[]) = .func (.func g) #[] cap := ⟨_, _, rfl⟩
    rw [hgc] at hp ⊢
    clear hgc
    obtain ⟨z0, z1, z2, z3, z4, z5, z6, z7, z8, zf⟩ := HA3.out.z
    go_wp2_with fail
    refine bodyPost_ret (v := .agg #[.int .i64 0, .func (.func g) #[] cap, .bool (setP fun x => x != 10).plain.isSome, .int .i32 ((setP fun x => x != 10).plain.getD 0), .slice none 0 0, .int .i64 0, .int .i64 0, .bool false, .int .i64 0]) (by simp [results, Tryz.results89, go_sem, setP, *]) rfl ?_
    exact endRe (Fresh.one (o := setP fun x => x != 10) hp hC) HA3.out.mv (Nat.le_refl _) hsz ((atomP_eq HC.out).trans (by simp [hc]))
  · have hc : c = 92 := by have h := (by assumption : (c == 92) = true); simpa using h
    have hlt : i < s.size := peekC_lt (by rw [HC.out, hc]; decide)
    have hsz := HA1.out.z.lt
    refine (escape_any w1 b s i (HA1.out.mv.rd HH.out) hs hlt hb2 (tabs_moved HT.out HA1.out.mv hb2)).mono ?_
    rintro e w3 hr
    rcases hx : escapeP s i with ⟨en, pl⟩ | ⟨o, j⟩
    · rw [hx] at hr
      obtain ⟨rfl, j, hm⟩ := hr
      refine ⟨rfl, ?_⟩
      rw [show atomP s (choiceP s f (d + 1)) d i = .error (en, pl) from (atomP_eq HC.out).trans (by simp [hc, liftO_err hx])]
      exact ⟨rfl, j, HA1.out.mv.trans hm⟩
    · rw [hx] at hr
      have HX := Lib.hid hx
      clear hx
      obtain ⟨g, cap, C, rfl, hp, hC, hm⟩ := hr
      have HA3 := Lib.hid (HA1.out.moved (by omega) hm)
      obtain ⟨z0, z1, z2, z3, z4, z5, z6, z7, z8, zf⟩ := HA3.out.z
      go_wp2_with fail
      refine bodyPost_ret (v := .agg #[.int .i64 0, .func (.func g) #[] cap, .bool (o).plain.isSome, .int .i32 ((o).plain.getD 0), .slice none 0 0, .int .i64 0, .int .i64 0, .bool false, .int .i64 0]) (by simp [results, Tryz.results89, go_sem, *]) rfl ?_
      exact endRe (Fresh.one hp hC) HA3.out.mv (Nat.le_refl _) hsz ((atomP_eq HC.out).trans (by simp [hc, liftO_ok HX.out]))
  · have hc : c = 91 := by have h := (by assumption : (c == 91) = true); simpa using h
    have hlt : i < s.size := peekC_lt (by rw [HC.out, hc]; decide)
    have hsz := HA1.out.z.lt
    refine (class_any w1 b s i (HA1.out.mv.rd HH.out) hs hlt hb2 (tabs_moved HT.out HA1.out.mv hb2)).mono ?_
    rintro e w3 hr
    rcases hx : wholeClass s i with ⟨en, pl⟩ | ⟨o, j⟩
    · rw [hx] at hr
      obtain ⟨rfl, j, hm⟩ := hr
      refine ⟨rfl, ?_⟩
      rw [show atomP s (choiceP s f (d + 1)) d i = .error (en, pl) from (atomP_eq HC.out).trans (by simp [hc, liftO_err hx])]
      exact ⟨rfl, j, HA1.out.mv.trans hm⟩
    · rw [hx] at hr
      have HX := Lib.hid hx
      clear hx
      obtain ⟨g, cap, C, rfl, hp, hC, hm⟩ := hr
      have HA3 := Lib.hid (HA1.out.moved (by omega) hm)
      obtain ⟨z0, z1, z2, z3, z4, z5, z6, z7, z8, zf⟩ := HA3.out.z
      go_wp2_with fail
      refine bodyPost_ret (v := .agg #[.int .i64 0, .func (.func g) #[] cap, .bool (o).plain.isSome, .int .i32 ((o).plain.getD 0), .slice none 0 0, .int .i64 0, .int .i64 0, .bool false, .int .i64 0]) (by simp [results, Tryz.results89, go_sem, *]) rfl ?_
      exact endRe (Fresh.one hp hC) HA3.out.mv (Nat.le_refl _) hsz ((atomP_eq HC.out).trans (by simp [hc, liftO_ok HX.out]))
  · have hc : c = 40 := by have h := (by assumption : (c == 40) = true); simpa using h
    have hdd : 50 ≤ d := by have h := (by assumption : (50 : Int) ≤ (d : Int)); omega
    refine (fail_any _ _ _ _).mono ?_
    rintro e w' ⟨rfl, hw'⟩
    refine ⟨rfl, ?_⟩
    rw [show atomP s (choiceP s f (d + 1)) d i = .error (51, i) from (atomP_eq HC.out).trans (by simp [hc, groupP, hdd])]
    exact ⟨rfl, i, hw' ▸ HA1.out.mv⟩
  · have hc : c = 40 := by have h := (by assumption : (c == 40) = true); simpa using h
    have hdi : (d : Int) < 50 := by assumption
    have hdd : ¬ 50 ≤ d := by omega
    have hlt : i < s.size := peekC_lt (by rw [HC.out, hc]; decide)
    have HA2 : Hid (ASt w b w.heap.size (i + 1) (w1.setCell ⟨b, 1, none⟩ (.int .i64 ((i : Int) + 1)))) := HA1.out.moved (by omega) (Moved.of_set (j := i + 1) (Below.refl _ _))
    refine (here_below _ b s (i + 1) 63 (HA2.out.mv.rd HH.out) (by omega) (by omega) hs).mono ?_
    rintro e w3 ⟨rfl, hb⟩
    have HA3 := Lib.hid (HA2.out.below hb)
    clear hb HA2 g0 g1 gf z0 z1 z2 z3 z4 z5 z6 z7 z8 zf
    generalize hn : here s (i + 1) 63 = v
    have HN1 := Lib.hid hn
    clear hn
    obtain ⟨g0, g1, gf⟩ := HA3.out.mv.rd HH.out
    obtain ⟨z0, z1, z2, z3, z4, z5, z6, z7, z8, zf⟩ := HA3.out.z
    cases v
    · skip
      go_wp2_with fail
      refine (HCH.out (by omega) w3 b (i + 1) (HA3.out.mv.rd HH.out) (by omega) hb2 (tabs_moved HT.out HA3.out.mv hb2)).mono ?_
      rintro e w5 hr
      rcases hx : choiceP s f (d + 1) (i + 1) with ⟨en, pl⟩ | ⟨p, k⟩
      · rw [hx] at hr
        obtain ⟨rfl, jj, hm⟩ := hr
        refine ⟨rfl, ?_⟩
        rw [show atomP s (choiceP s f (d + 1)) d i = .error (en, pl) from (atomP_eq HC.out).trans (by simp [hc, groupP, hdd, HN1.out, innerP, hx])]
        exact ⟨rfl, jj, HA3.out.mv.trans hm⟩
      · rw [hx] at hr
        obtain ⟨c9, K, C, rfl, hF, hm⟩ := hr
        have hkb := (choiceP_bd f (d + 1)) (i + 1) p k (by omega) hx
        have HX := Lib.hid hx
        have HA5 := Lib.hid (HA3.out.moved (by omega) hm)
        have hsz5 := hm.size
        have hszr := HA3.out.z.lt
        obtain ⟨hv1, hv2⟩ := hF.pv.one
        have HF := Lib.hid hF
        clear hx hm hF g0 g1 gf z0 z1 z2 z3 z4 z5 z6 z7 z8 zf
        obtain ⟨ck, ci, cp, cr, cd, cl, cm, cb, cn⟩ := c9
        obtain ⟨g0, g1, gf⟩ := HA5.out.mv.rd HH.out
        go_wp2_with fail
        have hB6 : Below w5.heap.size w5 (w5.alloc (.cells #[.int .i64 ck, ci, .bool cp, .int .i32 cr, cd, .int .i64 cl, .int .i64 cm, .bool cb, .int .i64 cn] 92)) := (Below.refl _ _).alloc (Nat.le_refl _) _
        have hC6 : Cells9 (w5.alloc (.cells #[.int .i64 ck, ci, .bool cp, .int .i32 cr, cd, .int .i64 cl, .int .i64 cm, .bool cb, .int .i64 cn] 92)) w5.heap.size 0 ⟨ck, ci, cp, cr, cd, cl, cm, cb, cn⟩ := by constructor <;> simp [go_sem]
        refine (here_below _ b s k 41 (HA5.out.mv.rd HH.out |>.below hB6) hkb.2.1 (by omega) hs).mono ?_
        rintro e w6 ⟨rfl, hb⟩
        have HA6 := Lib.hid (HA5.out.below (hB6.trans (hb.mono (by simp))))
        have HF6 := Lib.hid (HF.out.below (hB6.trans (hb.mono (by simp))))
        have hC7 := hC6.like (hb.block _ (by simp))
        clear hb hB6 hC6 g0 g1 gf
        generalize hn : here s k 41 = v
        have HN := Lib.hid hn
        clear hn
        obtain ⟨g0, g1, gf⟩ := HA6.out.mv.rd HH.out
        cases v
        · go_wp2_with fail
          refine (fail_any _ _ _ _).mono ?_
          rintro e w' ⟨rfl, hw'⟩
          refine ⟨rfl, ?_⟩
          rw [show atomP s (choiceP s f (d + 1)) d i = .error (50, k) from (atomP_eq HC.out).trans (by simp [hc, groupP, hdd, HN1.out, innerP, HX.out, HN.out])]
          exact ⟨rfl, k, hw' ▸ HA6.out.mv⟩
        · have hk6 : k < s.size := here_lt HN.out
          obtain ⟨x0, x1, x2, x3, x4, x5, x6, x7, x8⟩ := hC7
          simp only [Nat.zero_add] at x0 x1 x2 x3 x4 x5 x6 x7 x8
          obtain ⟨z0, z1, z2, z3, z4, z5, z6, z7, z8, zf⟩ := HA6.out.z
          go_wp2_with fail
          refine bodyPost_ret (v := P9.agg ⟨ck, ci, cp, cr, cd, cl, cm, cb, cn⟩) (by simp [results, Tryz.results89, go_sem, *]) rfl ?_
          exact endRe (HF6.out.moved (by first | omega | (simp only [setCell_size] at *; omega)) (Moved.of_set (j := k + 1) (Below.refl _ _))) (HA6.out.mv.trans (Moved.of_set (j := k + 1) (Below.refl _ _))) (Nat.le_refl _) (by first | omega | (simp only [setCell_size] at *; omega)) ((atomP_eq HC.out).trans (by simp [hc, groupP, hdd, HN1.out, innerP, HX.out, HN.out]))
    · have hlt1 : i + 1 < s.size := here_lt HN1.out
      go_wp2_with fail
      have HA4 : Hid (ASt w b w.heap.size (i + 2) (w3.setCell ⟨b, 1, none⟩ (.int .i64 ((i : Int) + 1 + 1)))) := HA3.out.moved (by omega) (Moved.of_set' (by omega) (Below.refl _ _))
      refine (here_below _ b s (i + 2) 58 (HA4.out.mv.rd HH.out) (by omega) (by omega) hs).mono ?_
      rintro e w4 ⟨rfl, hb⟩
      have HA5' := Lib.hid (HA4.out.below hb)
      clear hb HA4 g0 g1 gf z0 z1 z2 z3 z4 z5 z6 z7 z8 zf
      generalize hn : here s (i + 2) 58 = v
      have HN2 := Lib.hid hn
      clear hn
      obtain ⟨g0, g1, gf⟩ := HA5'.out.mv.rd HH.out
      obtain ⟨z0, z1, z2, z3, z4, z5, z6, z7, z8, zf⟩ := HA5'.out.z
      cases v
      · go_wp2_with fail
        refine (fail_any _ _ _ _).mono ?_
        rintro e w' ⟨rfl, hw'⟩
        refine ⟨rfl, ?_⟩
        rw [show atomP s (choiceP s f (d + 1)) d i = .error (50, ((i + 2 : Nat) : Int)) from (atomP_eq HC.out).trans (by simp [hc, groupP, hdd, HN1.out, HN2.out])]
        exact ⟨rfl, i + 2, hw' ▸ HA5'.out.mv⟩
      · have hlt2 : i + 2 < s.size := here_lt HN2.out
        have HA6' : Hid (ASt w b w.heap.size (i + 3) (w4.setCell ⟨b, 1, none⟩ (.int .i64 ((((i + 2 : Nat)) : Int) + 1)))) := HA5'.out.moved (by omega) (Moved.of_set' (by omega) (Below.refl _ _))
        go_wp2_with fail
        refine (HCH.out (by omega) _ b (i + 3) (HA6'.out.mv.rd HH.out) (by omega) hb2 (tabs_moved HT.out HA6'.out.mv hb2)).mono ?_
        rintro e w5 hr
        rcases hx : choiceP s f (d + 1) (i + 3) with ⟨en, pl⟩ | ⟨p, k⟩
        · rw [hx] at hr
          obtain ⟨rfl, jj, hm⟩ := hr
          refine ⟨rfl, ?_⟩
          rw [show atomP s (choiceP s f (d + 1)) d i = .error (en, pl) from (atomP_eq HC.out).trans (by simp [hc, groupP, hdd, HN1.out, HN2.out, innerP, hx])]
          exact ⟨rfl, jj, HA6'.out.mv.trans hm⟩
        · rw [hx] at hr
          obtain ⟨c9, K, C, rfl, hF, hm⟩ := hr
          have hkb := (choiceP_bd f (d + 1)) (i + 3) p k (by omega) hx
          have HX := Lib.hid hx
          have HA5 := Lib.hid (HA6'.out.moved (by omega) hm)
          have hsz5 := hm.size
          have hszr := HA6'.out.z.lt
          obtain ⟨hv1, hv2⟩ := hF.pv.one
          have HF := Lib.hid hF
          clear hx hm hF g0 g1 gf z0 z1 z2 z3 z4 z5 z6 z7 z8 zf
          obtain ⟨ck, ci, cp, cr, cd, cl, cm, cb, cn⟩ := c9
          obtain ⟨g0, g1, gf⟩ := HA5.out.mv.rd HH.out
          go_wp2_with fail
          have hB6 : Below w5.heap.size w5 (w5.alloc (.cells #[.int .i64 ck, ci, .bool cp, .int .i32 cr, cd, .int .i64 cl, .int .i64 cm, .bool cb, .int .i64 cn] 92)) := (Below.refl _ _).alloc (Nat.le_refl _) _
          have hC6 : Cells9 (w5.alloc (.cells #[.int .i64 ck, ci, .bool cp, .int .i32 cr, cd, .int .i64 cl, .int .i64 cm, .bool cb, .int .i64 cn] 92)) w5.heap.size 0 ⟨ck, ci, cp, cr, cd, cl, cm, cb, cn⟩ := by constructor <;> simp [go_sem]
          refine (here_below _ b s k 41 (HA5.out.mv.rd HH.out |>.below hB6) hkb.2.1 (by omega) hs).mono ?_
          rintro e w6 ⟨rfl, hb⟩
          have HA6 := Lib.hid (HA5.out.below (hB6.trans (hb.mono (by simp))))
          have HF6 := Lib.hid (HF.out.below (hB6.trans (hb.mono (by simp))))
          have hC7 := hC6.like (hb.block _ (by simp))
          clear hb hB6 hC6 g0 g1 gf
          generalize hn : here s k 41 = v
          have HN := Lib.hid hn
          clear hn
          obtain ⟨g0, g1, gf⟩ := HA6.out.mv.rd HH.out
          cases v
          · go_wp2_with fail
            refine (fail_any _ _ _ _).mono ?_
            rintro e w' ⟨rfl, hw'⟩
            refine ⟨rfl, ?_⟩
            rw [show atomP s (choiceP s f (d + 1)) d i = .error (50, k) from (atomP_eq HC.out).trans (by simp [hc, groupP, hdd, HN1.out, HN2.out, innerP, HX.out, HN.out])]
            exact ⟨rfl, k, hw' ▸ HA6.out.mv⟩
          · have hk6 : k < s.size := here_lt HN.out
            obtain ⟨x0, x1, x2, x3, x4, x5, x6, x7, x8⟩ := hC7
            simp only [Nat.zero_add] at x0 x1 x2 x3 x4 x5 x6 x7 x8
            obtain ⟨z0, z1, z2, z3, z4, z5, z6, z7, z8, zf⟩ := HA6.out.z
            go_wp2_with fail
            refine bodyPost_ret (v := P9.agg ⟨ck, ci, cp, cr, cd, cl, cm, cb, cn⟩) (by simp [results, Tryz.results89, go_sem, *]) rfl ?_
            exact endRe (HF6.out.moved (by first | omega | (simp only [setCell_size] at *; omega)) (Moved.of_set (j := k + 1) (Below.refl _ _))) (HA6.out.mv.trans (Moved.of_set (j := k + 1) (Below.refl _ _))) (Nat.le_refl _) (by first | omega | (simp only [setCell_size] at *; omega)) ((atomP_eq HC.out).trans (by simp [hc, groupP, hdd, HN1.out, HN2.out, innerP, HX.out, HN.out]))
  · have HNE : Hid (c ≠ 46 ∧ c ≠ 92 ∧ c ≠ 91 ∧ c ≠ 40) := by
      simp only [beq_eq_false_iff_ne, ne_eq] at *
      exact ⟨by assumption, by assumption, by assumption, by assumption⟩
    refine (sign_any _ _).mono ?_
    rintro e w' ⟨rfl, rfl⟩
    generalize hsg : signP c = sg
    have HS := Lib.hid hsg
    clear hsg
    obtain ⟨n1, n2, n3, n4⟩ := HNE.out
    have hsz := HA1.out.z.lt
    cases sg
    · go_wp2_with fail
      refine (next_any w1 b s i (HA1.out.mv.rd HH.out) hs hi (tabs_moved HT.out HA1.out.mv hb2)).mono ?_
      rintro e w3 ⟨rfl, hm⟩
      rw [HC.out]
      have HA3 := Lib.hid (HA1.out.moved (by omega) hm)
      have hsz3 := hm.size
      clear hm
      go_wp2_with fail
      refine (only_any _ _).mono ?_
      rintro e w4 ⟨g, cap, C, rfl, hp, hC, hb⟩
      have HA4 := Lib.hid (HA3.out.below hb)
      obtain ⟨z0, z1, z2, z3, z4, z5, z6, z7, z8, zf⟩ := HA4.out.z
      go_wp2_with fail
      refine bodyPost_ret (v := .agg #[.int .i64 0, .func (.func g) #[] cap, .bool (onlyP c).plain.isSome, .int .i32 ((onlyP c).plain.getD 0), .slice none 0 0, .int .i64 0, .int .i64 0, .bool false, .int .i64 0]) (by simp [results, Tryz.results89, go_sem, onlyP, *]) rfl ?_
      exact endRe (Fresh.one (o := onlyP c) hp hC) HA4.out.mv (Nat.le_refl _) (by omega) ((atomP_eq HC.out).trans (by simp [n1, n2, n3, n4, HS.out]))
    · go_wp2_with fail
      refine (fail_any _ _ _ _).mono ?_
      rintro e w' ⟨rfl, hw'⟩
      refine ⟨rfl, ?_⟩
      rw [show atomP s (choiceP s f (d + 1)) d i = .error (50, i) from (atomP_eq HC.out).trans (by simp [n1, n2, n3, n4, HS.out])]
      exact ⟨rfl, i, hw' ▸ HA1.out.mv⟩

end Go.Proofs.YtgcmjidphoklkaaGreatDoor.Rx
