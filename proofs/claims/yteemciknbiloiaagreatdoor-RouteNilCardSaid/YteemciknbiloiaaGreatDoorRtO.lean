/- Walks over layer 24: who is told, asked at a route without kids; asked at the first one of three. -/
import Derived.Test.YteemciknbiloiaaGreatDoorRtN
namespace Go.Proofs.YteemciknbiloiaaGreatDoor.Ih
open Go.RowKit

attribute [local go_sem] run_store_one

theorem Buts.cell {bs : List Nat} {w w' : World} (h : Buts bs w w') {b : Nat} (hb : b < w.heap.size) (hn : b ∉ bs) (j : Nat) : w'.cell? ⟨b, j, none⟩ = w.cell? ⟨b, j, none⟩ := World.cell?_of_block (w := w) (a := ⟨b, j, none⟩) (h.block b hb hn)

theorem Buts.alloc {bs : List Nat} {w w' : World} (h : Buts bs w w') (o : Obj) : Buts bs w (w'.alloc o) := h.trans ⟨rfl, rfl, rfl, by simp, fun k hk _ => Below.heap_alloc _ _ _ hk⟩

theorem tabs_buts {bs : List Nat} {w w' : World} (hT : Lib.Utf8Tabs 0 1 w) (h2 : 2 ≤ w.heap.size) (hb : Buts bs w w') (hn : ∀ b, b ∈ bs → 2 ≤ b) : Lib.Utf8Tabs 0 1 w' :=
  tabs_keep hT fun k hk => hb.block k (by omega) (fun h => by have := hn k h; omega)

set_option maxRecDepth 100000 in
theorem told_leaf (w : World) (tb gs kb j cs lb lc : Nat) (r : Rt) (c : Rec) (ls : List Lab) (hT : Lib.Utf8Tabs 0 1 w) (h1 : w.cell? ⟨tb, 1, none⟩ = some (.slice (some ⟨gs, 0, none⟩) 3 cs)) (h1s : w.cell? ⟨gs, j, none⟩ = some (saysFn c)) (hj : j < 3)
    (h2 : w.cell? ⟨tb, 2, none⟩ = some (.slice (some ⟨kb, 0, none⟩) 3 3)) (hk : w.cell? ⟨kb, j, none⟩ = some (.slice none 0 0)) (ht : tb ∉ c.bs ∧ tb < w.heap.size) (hkk : kb ∉ c.bs ∧ kb < w.heap.size) (hl : LabAt w lb 0 ls) (hlt : lb < w.heap.size) (hlb : lb ∉ c.bs) (hln : ls.length ≤ 16)
    (h2' : 2 ≤ c.lo) (hlw : c.lo ≤ w.heap.size) (hls : LsNew w c.xb c.v c.bs r.ms c.lo) (hm : ∀ m, m ∈ r.ms → m.Good) (hn : r.ms.length ≤ 16) (hall : ∀ m, m ∈ r.ms → HoldsG m (labGet ls m.n)) :
    Calls Tryz.prog 11 #[.pointer (some ⟨tb, 0, none⟩), .int .i64 j, .slice (some ⟨lb, 0, none⟩) ls.length lc] w (fun e w' => ∃ g, e = .returned (.slice (some ⟨g, 0, none⟩) 1 1) ∧ w.heap.size ≤ g ∧ g < w'.heap.size ∧ w'.cell? ⟨g, 0, none⟩ = some (.int .i64 j) ∧ Buts c.bs w w') := by
  have HC := Lib.hid (list_labels_g w c.xb w.heap.size c.lo c.v c.bs r.ms lb 0 lc ls hl hlt hlb (by omega) hT h2' hls.lo2 hlw hls.toG hm hn)
  have HA := Lib.hid hall
  have hsh : ∃ xb : Nat, c.xb = xb := ⟨_, rfl⟩
  obtain ⟨xb, hxb⟩ := hsh
  simp only [saysFn, hxb] at h1s HC
  have hj3 : (j : Int) < 3 := by omega
  have HT1 := Lib.hid ht
  have HK1 := Lib.hid hkk
  clear hT hl hls hm hall hxb ht hkk hlb
  go_enter Tryz.func11, Tryz.ntmps11
  go_wp2_with fail
  go_step3
  go_wp2_with fail
  refine HC.out.mono ?_
  rintro e w1 ⟨⟨b, rfl, hb⟩, hbt, hg⟩
  obtain rfl : b = true := hb.2 HA.out
  have d1 := (hbt.cell HT1.out.2 HT1.out.1 2).trans h2
  have d2 := (hbt.cell HK1.out.2 HK1.out.1 j).trans hk
  have HB := Lib.hid hbt
  clear HC hb hbt hg h1 h1s h2 hk
  go_wp2_with fail
  go_step3
  go_wp2_with fail
  refine wp_loop_rounds 1 ?_
  rw [rounds_succ]
  go_wp2_with fail
  try rw [Exit.noGoto_ret]
  go_ret
  refine ⟨w1.heap.size, rfl, HB.out.size, by simp, by simp, HB.out.alloc _⟩

/-- A tree of three routes in memory, the first one's kids the two others. -/
structure T3 (w : World) (tb gl gs kb gk cl cs ck : Nat) (c0 c1 c2 : Rec) (x1 x2 : Bool) : Prop where
  t0 : w.cell? ⟨tb, 0, none⟩ = some (.slice (some ⟨gl, 0, none⟩) 3 cl)
  t1 : w.cell? ⟨tb, 1, none⟩ = some (.slice (some ⟨gs, 0, none⟩) 3 cs)
  t2 : w.cell? ⟨tb, 2, none⟩ = some (.slice (some ⟨kb, 0, none⟩) 3 3)
  s0 : w.cell? ⟨gs, 0, none⟩ = some (saysFn c0)
  s1 : w.cell? ⟨gs, 1, none⟩ = some (saysFn c1)
  s2 : w.cell? ⟨gs, 2, none⟩ = some (saysFn c2)
  k0 : w.cell? ⟨kb, 0, none⟩ = some (.slice (some ⟨gk, 0, none⟩) 2 ck)
  k1 : w.cell? ⟨kb, 1, none⟩ = some (.slice none 0 0)
  k2 : w.cell? ⟨kb, 2, none⟩ = some (.slice none 0 0)
  g0 : w.cell? ⟨gk, 0, none⟩ = some (.int .i64 1)
  g1 : w.cell? ⟨gk, 1, none⟩ = some (.int .i64 2)
  l1 : w.cell? ⟨gl, 17, none⟩ = some (.bool x1)
  l2 : w.cell? ⟨gl, 26, none⟩ = some (.bool x2)

theorem T3.same {w w' : World} {tb gl gs kb gk cl cs ck : Nat} {c0 c1 c2 : Rec} {x1 x2 : Bool} (h : T3 w tb gl gs kb gk cl cs ck c0 c1 c2 x1 x2) (e : ∀ d, d ∈ [tb, gl, gs, kb, gk] → w'.heap[d]? = w.heap[d]?) : T3 w' tb gl gs kb gk cl cs ck c0 c1 c2 x1 x2 := by
  have q : ∀ d j, d ∈ [tb, gl, gs, kb, gk] → w'.cell? ⟨d, j, none⟩ = w.cell? ⟨d, j, none⟩ := fun d j hd => World.cell?_of_block (w := w) (a := ⟨d, j, none⟩) (e d hd)
  exact ⟨(q _ _ (by simp)).trans h.t0, (q _ _ (by simp)).trans h.t1, (q _ _ (by simp)).trans h.t2, (q _ _ (by simp)).trans h.s0, (q _ _ (by simp)).trans h.s1, (q _ _ (by simp)).trans h.s2, (q _ _ (by simp)).trans h.k0, (q _ _ (by simp)).trans h.k1, (q _ _ (by simp)).trans h.k2, (q _ _ (by simp)).trans h.g0, (q _ _ (by simp)).trans h.g1, (q _ _ (by simp)).trans h.l1, (q _ _ (by simp)).trans h.l2⟩

theorem Buts.mono {bs bs' : List Nat} {w w' : World} (h : Buts bs w w') (hs : ∀ b, b ∈ bs → b ∈ bs') : Buts bs' w w' := ⟨h.os, h.tape, h.output, h.size, fun k hk hn => h.block k hk (fun e => hn (hs k e))⟩
theorem Buts.grown {bs : List Nat} {w w' : World} (h : w.grownBy w' none) : Buts bs w w' := ⟨h.os, h.tape, h.output, h.size, fun k hk _ => h.block k hk (fun e => by cases e)⟩

theorem news_int {w : World} {g : Nat} {x : Int} (h : w.cell? ⟨g, 0, none⟩ = some (.int .i64 x)) : ∀ (j : Nat) (u : Value), [Value.int .i64 x][j]? = some u → w.cell? ((⟨g, 0, none⟩ : Addr).add j) = some u := by
  intro j u hu
  cases j with
  | zero => cases hu; exact h
  | succ j => simp at hu

/-- What is said of a route of the tree that is asked. -/
structure Asks (w : World) (c : Rec) (ms : List Mat) (ls : List Lab) : Prop where
  new : LsNew w c.xb c.v c.bs ms c.lo
  inn : c.In
  hi : c.hi ≤ w.heap.size
  lo : 2 ≤ c.lo
  good : ∀ m, m ∈ ms → m.Good
  few : ms.length ≤ 16
  all : ∀ m, m ∈ ms → HoldsG m (labGet ls m.n)

theorem Asks.same {w w' : World} {c : Rec} {ms : List Mat} {ls : List Lab} {bs : List Nat} (h : Asks w c ms ls) (hb : Buts bs w w') (hn : ∀ b, b ∈ bs → b < c.lo) : Asks w' c ms ls :=
  ⟨h.new.agree hb.size (fun k h1 h2 => hb.block k h2 (fun e => by have := hn k e; omega)), h.inn, Nat.le_trans h.hi hb.size, h.lo, h.good, h.few, h.all⟩

set_option maxRecDepth 100000 in
set_option maxHeartbeats 1000000 in
theorem told_root (w : World) (tb gl gs kb gk cl cs ck lb lc lo : Nat) (c0 c1 c2 : Rec) (m0 m1 m2 : List Mat) (ls : List Lab) (hT : Lib.Utf8Tabs 0 1 w) (h3 : T3 w tb gl gs kb gk cl cs ck c0 c1 c2 true false) (a0 : Asks w c0 m0 ls) (a1 : Asks w c1 m1 ls) (a2 : Asks w c2 m2 ls)
    (s1 : c0.hi ≤ c1.lo) (s2 : c1.hi ≤ c2.lo) (hoff : ∀ d, d ∈ [tb, gl, gs, kb, gk, lb] → d < w.heap.size ∧ d ∉ c0.bs ∧ d ∉ c1.bs ∧ d ∉ c2.bs) (hl : LabAt w lb 0 ls) (hln : ls.length ≤ 16) (l0 : lo ≤ c0.lo) (l1 : c0.lo ≤ c1.lo) (l2 : c0.lo ≤ c2.lo) (h01 : c0.hi ≤ c2.lo) :
    Calls Tryz.prog 11 #[.pointer (some ⟨tb, 0, none⟩), .int .i64 0, .slice (some ⟨lb, 0, none⟩) ls.length lc] w (fun e w' => ∃ g cap, e = .returned (.slice (some ⟨g, 0, none⟩) 2 cap) ∧ g < w'.heap.size ∧ w'.cell? ⟨g, 0, none⟩ = some (.int .i64 1) ∧ w'.cell? ⟨g, 1, none⟩ = some (.int .i64 2) ∧ Below lo w w') := by
  have ol := hoff lb (by simp)
  have HOFF := Lib.hid hoff
  have hb0 : ∀ b, b ∈ c0.bs → c0.lo ≤ b ∧ b < c0.hi := a0.inn.bs
  have hb1 : ∀ b, b ∈ c1.bs → c1.lo ≤ b ∧ b < c1.hi := a1.inn.bs
  have hb2 : ∀ b, b ∈ c2.bs → c2.lo ≤ b ∧ b < c2.hi := a2.inn.bs
  have HB := Lib.hid (And.intro hb0 (And.intro hb1 hb2))
  have z0 := a0.hi
  have z1 := a1.hi
  have z2 := a2.hi
  have y0 := a0.lo
  have w2' : 2 ≤ w.heap.size := by have := a0.inn.xb; omega
  have hlw : lo ≤ w.heap.size := by have := a0.inn.xb; omega
  have HT := Lib.hid hT
  have HL := Lib.hid hl
  have H3 := Lib.hid h3
  have A1 := Lib.hid a1
  have A2 := Lib.hid a2
  have HC := Lib.hid (list_labels_g w c0.xb w.heap.size c0.lo c0.v c0.bs m0 lb 0 lc ls hl ol.1 ol.2.1 (by omega) hT y0 a0.new.lo2 (by have := a0.inn.xb; omega) a0.new.toG a0.good a0.few)
  have HA := Lib.hid a0.all
  obtain ⟨t0, t1, t2, e0, e1, e2, k0, k1, k2, g0, g1, l1', l2'⟩ := h3
  obtain ⟨xb, hxb⟩ : ∃ xb : Nat, c0.xb = xb := ⟨_, rfl⟩
  simp only [saysFn, hxb] at e0 HC
  clear hT hl a0 a1 a2 hb0 hb1 hb2 hoff hxb
  go_enter Tryz.func11, Tryz.ntmps11
  go_wp2_with fail
  go_step3
  go_wp2_with fail
  refine HC.out.mono ?_
  rintro e w1 ⟨⟨b, rfl, hb⟩, hbt, _⟩
  obtain rfl : b = true := hb.2 HA.out
  have H31 := Lib.hid (H3.out.same (w' := w1) (fun d hd => by
    have q := HOFF.out d (by simp at hd ⊢; rcases hd with rfl | rfl | rfl | rfl | rfl <;> simp)
    exact hbt.block d q.1 q.2.1))
  have HT1 := Lib.hid (tabs_buts HT.out w2' hbt (fun b hb => by have := HB.out.1 b hb; omega))
  have A11 := Lib.hid (A1.out.same hbt (fun b hb => by have := HB.out.1 b hb; omega))
  have HL1 : Hid (LabAt w1 lb 0 ls) := Lib.hid (fun i x hx => by
    have q := HL.out i x hx
    exact ⟨(hbt.cell ol.1 ol.2.1 _).trans q.1, (hbt.cell ol.1 ol.2.1 _).trans q.2⟩)
  have hz1 := hbt.size
  have HBT := Lib.hid hbt
  clear hbt hb HC HA t0 t1 t2 e0 e1 e2 k0 k1 k2 g0 g1 l1' l2'
  obtain ⟨t0, t1, t2, e0, e1, e2, k0, k1, k2, g0, g1, l1', l2'⟩ := H31.out
  go_wp2_with fail
  go_step3
  go_wp2_with fail
  refine wp_loop_rounds 2 ?_
  rw [rounds_succ]
  go_wp2_with fail
  have oa := fun d hd => HOFF.out d hd
  have otb := oa tb (by simp)
  have okb := oa kb (by simp)
  have olb := oa lb (by simp)
  clear oa
  obtain ⟨i0, hi0, hz0, hz1', hz2'⟩ := info_parts infoInt
  refine (told_leaf w1 tb gs kb 1 cs lb lc ⟨0, ⟨#[]⟩, m1, [], 0, 0, 0, false⟩ c1 ls HT1.out t1 e1 (by decide) t2 k1 ⟨otb.2.2.1, Nat.lt_of_lt_of_le otb.1 hz1⟩ ⟨okb.2.2.1, Nat.lt_of_lt_of_le okb.1 hz1⟩ HL1.out (Nat.lt_of_lt_of_le olb.1 hz1) olb.2.2.1 hln A11.out.lo (by have := A11.out.inn.xb; omega) A11.out.new A11.out.good A11.out.few A11.out.all).mono ?_
  rintro e w2 ⟨p1, rfl, hp1, hp1l, hp1c, hb2⟩
  have hz2 := hb2.size
  have HBT2 : Hid (Buts (c0.bs ++ c1.bs) w w2) := Lib.hid ((HBT.out.mono (fun b hb => List.mem_append.2 (.inl hb))).trans (hb2.mono (fun b hb => List.mem_append.2 (.inr hb))))
  have HP1 : Hid (w2.cell? ⟨p1, 0, none⟩ = some (.int .i64 1)) := Lib.hid hp1c
  clear hb2 hp1c t0 t1 t2 e0 e1 e2 k0 k1 k2 g0 g1 l1' l2' HT1 A11 HL1 H31
  go_wp2_with (at_builtin; go_loud (refine wpList_append_lies _ rfl _ _ _ rfl w2.heap.size 3 i0 _ 1 8 Tryz.underlying24 hi0 hz0 hz1' hz2' rfl (by omega) (.slice none 0 0) 0 [] rfl (World.ownsRow_nil _ _ _ _) ⟨p1, 0, none⟩ 1 1 [.int .i64 1] rfl rfl (news_int HP1.out) (by intro u hu; rw [List.mem_singleton.1 hu]; rfl) (by omega) (by unfold maxLen; omega) (by omega) (by omega) w2.heap.size rfl ?_))
  intro q1 cap1 w3 hown hgrow hat hgl
  have hz3 := hgrow.size
  have HB3 : Hid (Buts (c0.bs ++ c1.bs) w w3) := Lib.hid (HBT2.out.trans (Buts.grown hgrow))
  have H33 := Lib.hid (H3.out.same (w' := w3) (fun d hd => by
    have q := HOFF.out d (by simp at hd ⊢; rcases hd with rfl | rfl | rfl | rfl | rfl <;> simp)
    exact HB3.out.block d q.1 (fun e => (List.mem_append.1 e).elim q.2.1 q.2.2.1)))
  have HT3 := Lib.hid (tabs_buts HT.out w2' HB3.out (fun b hb => by
    rcases List.mem_append.1 hb with h | h
    · have := HB.out.1 b h; omega
    · have := HB.out.2.1 b h; omega))
  have A23 := Lib.hid (A2.out.same HB3.out (fun b hb => by
    rcases List.mem_append.1 hb with h | h
    · have := HB.out.1 b h; omega
    · have := HB.out.2.1 b h; omega))
  have hlb3 : lb ∉ c0.bs ++ c1.bs := fun e => (List.mem_append.1 e).elim olb.2.1 olb.2.2.1
  have HL3 : Hid (LabAt w3 lb 0 ls) := Lib.hid (fun i x hx => by
    have q := HL.out i x hx
    exact ⟨(HB3.out.cell olb.1 hlb3 _).trans q.1, (HB3.out.cell olb.1 hlb3 _).trans q.2⟩)
  have HOW := Lib.hid hown
  have hq1 : w2.heap.size ≤ q1 := (HOW.out.lt q1 rfl).1
  clear hown hgrow hat hlb3
  obtain ⟨t0, t1, t2, e0, e1, e2, k0, k1, k2, g0, g1, l1', l2'⟩ := H33.out
  go_wp2_with fail
  rw [rounds_succ]
  go_wp2_with fail
  refine (told_leaf w3 tb gs kb 2 cs lb lc ⟨0, ⟨#[]⟩, m2, [], 0, 0, 0, false⟩ c2 ls HT3.out t1 e2 (by decide) t2 k2 ⟨otb.2.2.2, by omega⟩ ⟨okb.2.2.2, by omega⟩ HL3.out (by omega) olb.2.2.2 hln A23.out.lo (by have := A23.out.inn.xb; omega) A23.out.new A23.out.good A23.out.few A23.out.all).mono ?_
  rintro e w4 ⟨p2, rfl, hp2, hp2l, hp2c, hb4⟩
  have hz4 := hb4.size
  have HB4 : Hid (Buts (c0.bs ++ c1.bs ++ c2.bs) w w4) := Lib.hid ((HB3.out.mono (fun b hb => List.mem_append.2 (.inl hb))).trans (hb4.mono (fun b hb => List.mem_append.2 (.inr hb))))
  have HP2 : Hid (w4.cell? ⟨p2, 0, none⟩ = some (.int .i64 2)) := Lib.hid hp2c
  have HO4 : Hid (w4.ownsRow w2.heap.size 3 1 (.slice (some ⟨q1, 0, none⟩) 1 cap1) 1 [.int .i64 1]) := Lib.hid (ownsRow_agree HOW.out (fun g hg => by
    have e : q1 = g := by simpa [Value.ownBlock] using hg
    subst e
    exact hb4.block _ hgl (fun h => by have := HB.out.2.2 _ h; omega)))
  have H34 := Lib.hid (H3.out.same (w' := w4) (fun d hd => by
    have q := HOFF.out d (by simp at hd ⊢; rcases hd with rfl | rfl | rfl | rfl | rfl <;> simp)
    exact HB4.out.block d q.1 (fun e => (List.mem_append.1 e).elim (fun e => (List.mem_append.1 e).elim q.2.1 q.2.2.1) q.2.2.2)))
  have HBL : Hid (Below lo w w4) := Lib.hid (HB4.out.below (fun b hb => by
    rcases List.mem_append.1 hb with hb | hb
    · rcases List.mem_append.1 hb with h | h
      · have := HB.out.1 b h; omega
      · have := HB.out.2.1 b h; omega
    · have := HB.out.2.2 b hb; omega) (by omega))
  clear hb4 hp2c t0 t1 t2 e0 e1 e2 k0 k1 k2 g0 g1 l1' l2' HT3 A23 HL3 H33 HOW
  go_wp2_with (at_builtin; go_loud (refine wpList_append_lies _ rfl _ _ _ rfl w2.heap.size 3 i0 _ 1 8 Tryz.underlying24 hi0 hz0 hz1' hz2' rfl (by omega) (.slice (some ⟨q1, 0, none⟩) 1 cap1) 1 [.int .i64 1] rfl HO4.out ⟨p2, 0, none⟩ 1 1 [.int .i64 2] rfl rfl (news_int HP2.out) (by intro u hu; rw [List.mem_singleton.1 hu]; rfl) (by omega) (by unfold maxLen; omega) (by omega) (by omega) w4.heap.size rfl ?_))
  intro q2 cap2 w5 hown hgrow hat hgl2
  have hz5 := hgrow.size
  have H35 := Lib.hid (H34.out.same (w' := w5) (fun d hd => by
    have q := HOFF.out d (by simp at hd ⊢; rcases hd with rfl | rfl | rfl | rfl | rfl <;> simp)
    exact hgrow.block d (by omega) (fun e => by
      have e : q1 = d := by simpa [Value.ownBlock] using e.symm
      omega)))
  have HB5 := Lib.hid (HBL.out.grown hgrow (by omega) (fun g hg => by
    have e : q1 = g := by simpa [Value.ownBlock] using hg
    omega))
  have HC0 : Hid (w5.cell? ⟨q2, 0, none⟩ = some (.int .i64 1)) := Lib.hid (by rw [hown.cellAt 0 (by omega)]; rfl)
  have HC1 : Hid (w5.cell? ⟨q2, 1, none⟩ = some (.int .i64 2)) := Lib.hid (by rw [hown.cellAt 1 (by omega)]; rfl)
  clear hown hgrow hat
  obtain ⟨t0, t1, t2, e0, e1, e2, k0, k1, k2, g0, g1, l1', l2'⟩ := H35.out
  go_wp2_with fail
  try rw [Exit.noGoto_ret]
  go_ret
  exact ⟨q2, cap2, rfl, hgl2, HC0.out, HC1.out, HB5.out⟩

end Go.Proofs.YteemciknbiloiaaGreatDoor.Ih
