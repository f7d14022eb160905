/- Walks over layer 24: New. -/
import Derived.Test.YteemciknbiloiaaGreatDoorRtM
import Derived.Laws.OwnMore
import Derived.Deep.RegionHeld3
namespace Go.Proofs.YteemciknbiloiaaGreatDoor.Ih
open Go.RowKit

attribute [local go_sem] run_store_one

theorem infoInts : (Tryz.prog.info? 24).map (fun i => (i.zero, i.size, i.bytes)) = some (some (.slice none 0 0), 1, 24) := by kernel_rfl

theorem row_shape {w : World} {base : Nat} {e : TypeId} {size : Nat} {v : Value} {n : Nat} {xs : List Value} (h : w.ownsRow base e size v n xs) : ∃ a n c, v = .slice a n c := by
  rcases h.2 with ⟨rfl, _⟩ | ⟨g, cap, cur, rfl, _⟩ <;> exact ⟨_, _, _, rfl⟩

/-- A tree without routes. -/
theorem tr_start {w w1 w2 : World} {n : Nat} (hb1 : Below w.heap.size w w1) (hO : w2.ownsRow w.heap.size 24 1 (.slice (some ⟨w1.heap.size, 0, none⟩) n n) n (madeCells (Value.slice none 0 0).cells (n * 1)).toList) (hG : w1.grownBy w2 none) (hn : 0 < n) :
    Below w.heap.size w (w2.alloc (.cells #[.slice none 0 0, .slice none 0 0, .slice (some ⟨w1.heap.size, 0, none⟩) n n] 51)) ∧
    TrAt (w2.alloc (.cells #[.slice none 0 0, .slice none 0 0, .slice (some ⟨w1.heap.size, 0, none⟩) n n] 51)) w2.heap.size w1.heap.size w.heap.size n (.slice none 0 0) (.slice none 0 0) (.slice none 0 0) [] [] 0 := by
  have hk := (hO.lt w1.heap.size rfl).2
  have hz := hb1.size
  have hc : ∀ j, j < n → w2.cell? ⟨w1.heap.size, j, none⟩ = some (.slice none 0 0) := fun j hj => by
    rw [hO.cellAt j (by omega), Nat.mul_one, show (Value.slice none 0 0).cells = #[.slice none 0 0] from rfl, toList_madeCells_one, List.getElem?_replicate, if_pos hj]
  have hB : Below w2.heap.size w2 (w2.alloc (.cells #[.slice none 0 0, .slice none 0 0, .slice (some ⟨w1.heap.size, 0, none⟩) n n] 51)) := (Below.refl _ _).alloc (Nat.le_refl _) _
  have hb2 : Below w.heap.size w w2 := hb1.grown hG hz (fun k hk => by cases hk)
  refine ⟨hb2.alloc hb2.size _, ?_⟩
  refine ⟨by simp, by simp; omega, by simp, by simp, by simp, fun k => by simp, (hB.cell (p := ⟨w1.heap.size, 0, none⟩) hk).trans (hc 0 hn), fun j _ h => (hB.cell (p := ⟨w1.heap.size, j, none⟩) hk).trans (hc j h), fun k => (hB.frozen (p := ⟨w1.heap.size, k, none⟩) hk).trans (hO.frozenAt k),
    World.ownsRow_nil _ _ _ _, World.ownsRow_nil _ _ _ _, World.ownsRow_nil _ _ _ _, by omega, by simp [Value.ownBlock], by simp [Value.ownBlock], by simp [Value.ownBlock], by simp, by simp, List.Pairwise.nil, by simp⟩

theorem infoFn : (Tryz.prog.info? 63).map (fun i => (i.zero, i.size, i.bytes)) = some (some .nilFunc, 1, 8) := by kernel_rfl

theorem infoRt : (Tryz.prog.info? 33).map (fun i => (i.zero, i.size, i.bytes)) = some (some (rtV 0 ⟨#[]⟩ (.slice none 0 0) (.slice none 0 0) false 0 0 0 false), 9, 112) := by kernel_rfl

theorem infoInt : (Tryz.prog.info? 3).map (fun i => (i.zero, i.size, i.bytes)) = some (some (.int .i64 0), 1, 8) := by kernel_rfl

theorem TrAt.low {w : World} {tb kb lo n : Nat} {lv sv kv : Value} {pl ps : List (Rt × Rec)} {m : Nat} (h : TrAt w tb kb lo n lv sv kv pl ps m) : (∀ d, d ∈ dyn tb kb lv sv kv → d < w.heap.size) ∧ ∀ q, q ∈ pl → q.2.hi ≤ w.heap.size := by
  refine ⟨fun d hd => ?_, fun q hq => (h.hi q hq).2.1⟩
  rw [mem_dyn] at hd
  rcases hd with rfl | rfl | q | q | q
  · exact h.ltt
  · exact h.ltk
  · exact (h.ol.lt d q).2
  · exact (h.os.lt d q).2
  · exact (h.ok.lt d q).2

theorem rec_new {Z : World} {D : List Nat} {x : Rt} {c : Rec} {B : Nat} (hls : LsNew Z c.xb c.v c.bs x.ms c.lo) (hm : ClM B Z c.mv x.ms) (hs : ClS B Z c.bv x.ns) (hD : ∀ d, d ∈ D → d < c.lo) (hB : c.lo ≤ B) (hin : c.In) : Off D Z (fun w' => RecAt w' x c) := by
  have e : ∀ d, d ∈ D → d < B ∨ Z.heap.size ≤ d := fun d hd => .inl (Nat.lt_of_lt_of_le (hD d hd) hB)
  intro w' h1 h2
  exact ⟨⟨(off_clm hm e w' h1 h2).mono (Nat.zero_le _), (off_cls hs e w' h1 h2).mono (Nat.zero_le _), off_ls hls (fun d hd => .inl (hD d hd)) w' h1 h2⟩, hin⟩

theorem RtAt.grown {w w' : World} {b : Nat} {p : Int} {rc : ByteArray} {mv bv : Value} {wt iv rp : Int} {ct : Bool} {row : Option Nat} (h : RtAt w b p rc mv bv wt iv rp ct) (hg : w.grownBy w' row) (hn : ∀ k, row = some k → k < b) : RtAt w' b p rc mv bv wt iv rp ct :=
  h.like (hg.block b h.lt (fun e => by have := hn b e.symm; omega)) hg.size

theorem zip_take {α β : Type} {rs : List α} {cs : List β} {k : Nat} {x : α} (c : β) (hx : rs[k]? = some x) (hc : cs.length = k) : (rs.take (k + 1)).zip (cs ++ [c]) = (rs.take k).zip cs ++ [(x, c)] := by
  have hk := (List.getElem?_eq_some_iff.1 hx).1
  rw [List.take_add_one, hx, List.zip_append (by rw [List.length_take]; omega)]
  rfl

set_option maxRecDepth 100000 in
set_option maxHeartbeats 4000000 in
theorem new_ok (w : World) (b off c B : Nat) (rs : List Rt) (hT : Lib.Utf8Tabs 0 1 w) (h2 : 2 ≤ w.heap.size) (hl : RtsAt w b off B rs) (hlt : b < w.heap.size) (hn0 : rs.length ≠ 0) (hln : rs.length ≤ 64) (hok : ∀ (i : Nat) (r : Rt), rs[i]? = some r → r.Ok i) :
    Calls Tryz.prog 33 #[.slice (some ⟨b, off, none⟩) rs.length c] w (fun e w' => ∃ tb kb lv sv kv cs, e = .returned (.tuple #[.pointer (some ⟨tb, 0, none⟩), .int .i64 0, .int .i64 0]) ∧ Below w.heap.size w w' ∧ cs.length = rs.length ∧ w.heap.size ≤ tb ∧ TrAt w' tb kb w.heap.size rs.length lv sv kv (rs.zip cs) (rs.zip cs) (rs.length - 1)) := by
  have HL := Lib.hid hl
  have HOK := Lib.hid hok
  have HT := Lib.hid hT
  have HC := Lib.hid (routes_right w b off c B rs hT h2 hl hlt hn0 hln hok)
  obtain ⟨i0, hi0, hz0, hz1, hz2⟩ := info_parts infoInts
  clear hl hok hT
  go_enter Tryz.func33, Tryz.ntmps33
  go_wp2_with fail
  refine HC.out.mono ?_
  rintro e w1 ⟨rfl, hb1⟩
  have HB1 := Lib.hid hb1
  have hz := hb1.size
  obtain ⟨w2, hmk, hown, hgr⟩ := run_makeSlice_full (P := Tryz.prog) (w := w1) w.heap.size 49 24 i0 (.slice none 0 0) 1 Tryz.underlying49 hi0 hz0 hz1 .i64 .i64 rs.length (by omega) (by rw [hz2]; omega) (by unfold maxLen; omega) hz
  have HO := Lib.hid hown
  have HG := Lib.hid hgr
  clear hb1 hown hgr HC
  go_wp2_with fail
  have HS := Lib.hid (tr_start HB1.out HO.out HG.out (by omega))
  generalize hWe : w2.alloc (.cells #[.slice none 0 0, .slice none 0 0, .slice (some ⟨w1.heap.size, 0, none⟩) rs.length rs.length] 51) = W at *
  obtain ⟨hbW, hTW⟩ := HS.out
  have HBW := Lib.hid hbW
  have HTW := Lib.hid hTW
  have htl : w.heap.size ≤ w2.heap.size := (HB1.out.grown HG.out hz (fun k hk => by cases hk)).size
  have hkl : w.heap.size ≤ w1.heap.size := hz
  generalize w2.heap.size = tb at *
  generalize w1.heap.size = kb at *
  clear hbW hTW HS hWe HO HG HB1 hz hmk
  go_loopg [29] rs.length (fun g i wr => ∃ k lv sv kv cs, k + g = rs.length ∧ i = .int .i64 k ∧ cs.length = k ∧ Below w.heap.size w wr ∧ TrAt wr tb kb w.heap.size rs.length lv sv kv ((rs.take k).zip cs) ((rs.take k).zip cs) (k - 1))
  case atStart => exact ⟨0, _, _, _, [], by omega, rfl, rfl, HBW.out, by simpa using HTW.out⟩
  case round =>
    obtain ⟨k, lv, sv, kv, cs, hkg, rfl, hcs, hb, htr⟩ := hrel
    have HB := Lib.hid hb
    have HTR := Lib.hid htr
    have hsz := hb.size
    by_cases hlt2 : k < rs.length
    · obtain ⟨x, hx⟩ : ∃ x, rs[k]? = some x := ⟨_, List.getElem?_eq_getElem hlt2⟩
      obtain ⟨mv, bv, hm, hs, c0, c1, c2, c3, c4, c5, c6, c7, c8⟩ := HL.out.below HB.out hlt k x hx
      have HO := Lib.hid (HOK.out k x hx)
      have HMS : Hid (ClM B wr mv x.ms ∧ ClS B wr bv x.ns) := Lib.hid ⟨hm, hs⟩
      have hw1 : IntKind.i64.wrap ((k : Int) + 1) = (k : Int) + 1 := by rw [IntKind.wrap_i64] <;> omega
      have hW : Hid (∀ X, X = wr.alloc (.cells #[.int .i64 x.p, .string x.rc, mv, bv, .bool false, .int .i64 x.wt, .int .i64 x.iv, .int .i64 x.rp, .bool x.ct] 33) → Below wr.heap.size wr X ∧ X.heap.size = wr.heap.size + 1 ∧ RtAt X wr.heap.size x.p x.rc mv bv x.wt x.iv x.rp x.ct) := by
        rintro X rfl
        exact ⟨(Below.refl _ _).alloc (Nat.le_refl _) _, by simp, ⟨by simp, by simp, by simp, by simp, by simp, by simp, by simp, by simp, by simp, by simp, fun k => by simp⟩⟩
      obtain ⟨a1, n1, k1, rfl⟩ := hm.shape
      obtain ⟨a2, n2, k2, rfl⟩ := hs.shape
      have HHI := Lib.hid htr.low
      have HXK := Lib.hid hx
      have HCS := Lib.hid hcs
      clear hm hs hb htr hx hcs
      go_wp2_with fail
      generalize hXe : wr.alloc (.cells #[.int .i64 x.p, .string x.rc, .slice a1 n1 k1, .slice a2 n2 k2, .bool false, .int .i64 x.wt, .int .i64 x.iv, .int .i64 x.rp, .bool x.ct] 33) = X
      obtain ⟨hbX, hszX, hrX⟩ := hW.out X hXe.symm
      have HBX := Lib.hid (HB.out.trans (hbX.mono hsz))
      have HTX := Lib.hid (HTR.out.below hbX)
      have HMX : Hid (ClM B X (.slice a1 n1 k1) x.ms ∧ ClS B X (.slice a2 n2 k2) x.ns) := Lib.hid ⟨HMS.out.1.below hbX, HMS.out.2.below hbX⟩
      clear c0 c1 c2 c3 c4 c5 c6 c7 c8 hW hXe hbX HMS HB HTR
      refine (compile_cl X B (.slice a1 n1 k1) x.ms (Utf8Tabs_below HT.out HBX.out) (by omega) HMX.out.1 HO.out.msl HO.out.msok).mono ?_
      rintro e y ⟨xb, v, bs, rfl, hby, hls⟩
      have HBY := Lib.hid (HBX.out.trans (hby.mono (by omega)))
      have HTY := Lib.hid (HTX.out.below hby)
      have HLS := Lib.hid hls
      have HMY : Hid (ClM B y (.slice a1 n1 k1) x.ms ∧ ClS B y (.slice a2 n2 k2) x.ns) := Lib.hid ⟨HMX.out.1.below hby, HMX.out.2.below hby⟩
      have hry := hrX.like (hby.block _ hrX.lt) hby.size
      have HRY := Lib.hid hry
      have hszy := hby.size
      clear hby hls hry hrX HTX HMX HBX
      go_wp2_with fail
      go_cut [] from 41 to 51 (fun wx => Below w.heap.size w wx ∧ ∃ lv' c, c.xb = xb ∧ RtAt wx wr.heap.size x.p x.rc (.slice a1 n1 k1) (.slice a2 n2 k2) x.wt x.iv x.rp x.ct ∧ TrAt wx tb kb w.heap.size rs.length lv' sv kv ((rs.take k).zip cs ++ [(x, c)]) ((rs.take k).zip cs) (k - 1))
      case first =>
        -- [[
        obtain ⟨l1, l2, l3, rfl⟩ := row_shape HTY.out.ol
        obtain ⟨e0, he0, hez0, hez1, hez2⟩ := info_parts infoRt
        have hzl : ((rs.take k).zip cs).length = k := by rw [List.length_zip, List.length_take, HCS.out]; omega
        have hwt : wr.heap.size ≠ tb := fun e => by have := HHI.out.1 tb (mem_dyn.2 (.inl rfl)); omega
        have HOK2 : Hid (x.ms.length ≤ 16 ∧ x.ns.length ≤ 16) := Lib.hid ⟨HO.out.msl, Nat.le_trans HO.out.nsl (by decide)⟩
        refine wp_region_any (by kernel_rfl) ?_
        change wpAny _ _ _ _ _ _ _ (World.drew _)
        have HD : Hid (∀ WD, WD = y.drew → Below w.heap.size w WD ∧ WD.heap.size = y.heap.size ∧ TrAt WD tb kb w.heap.size rs.length (.slice l1 l2 l3) sv kv ((rs.take k).zip cs) ((rs.take k).zip cs) (k - 1) ∧ RtAt WD wr.heap.size x.p x.rc (.slice a1 n1 k1) (.slice a2 n2 k2) x.wt x.iv x.rp x.ct ∧ LsNew WD xb v bs x.ms X.heap.size ∧ ClM B WD (.slice a1 n1 k1) x.ms ∧ ClS B WD (.slice a2 n2 k2) x.ns) := by
          rintro WD rfl
          have hA : Below y.heap.size y y.drew := (Below.refl _ _).drew
          exact ⟨HBY.out.trans (hA.mono (by omega)), rfl, HTY.out.below hA, HRY.out.like (hA.block _ HRY.out.lt) hA.size, HLS.out.below hA, HMY.out.1.below hA, HMY.out.2.below hA⟩
        generalize hDe : y.drew = WD
        obtain ⟨hbD, hszD, hTD, hRD, hLD, hmD, hsD⟩ := HD.out WD hDe.symm
        have HBD := Lib.hid hbD
        have HTD := Lib.hid hTD
        have HRD := Lib.hid hRD
        have HLD := Lib.hid hLD
        have HMD := Lib.hid (And.intro hmD hsD)
        have t0 := hTD.t0
        have tf0 := hTD.tf 0
        obtain ⟨_, r0, r1, r2, r3, r4, r5, r6, r7, r8, _⟩ := hRD
        have hwD : w.heap.size ≤ WD.heap.size := hbD.size
        have hwD2 : X.heap.size ≤ WD.heap.size := by omega
        clear HD hDe hbD hTD hLD hmD hsD HTY HRY HLS HMY HBY
        refine wpAny_take (i := 0) (v := .pointer (some ⟨tb, 0, none⟩)) rfl (by kernel_rfl) (by kernel_rfl) (by kernel_rfl) (fun _ _ _ h => h) (Or.inl ⟨by rfl, by intro w; go_simp⟩) ?_
        refine wpAny_take (i := 1) (v := .pointer (some ⟨tb, 0, none⟩)) rfl (by kernel_rfl) (by kernel_rfl) (by kernel_rfl) (fun _ _ _ h => h) (Or.inl ⟨by rfl, by intro w; go_simp⟩) ?_
        refine wpAny_take (i := 2) (v := .pointer (some ⟨tb, 0, none⟩)) rfl (by kernel_rfl) (by kernel_rfl) (by kernel_rfl) (fun _ _ _ h => h) (Or.inl ⟨by rfl, by intro w; go_simp⟩) ?_
        refine wpAny_take (i := 3) (v := .pointer (some ⟨tb, 0, none⟩)) rfl (by kernel_rfl) (by kernel_rfl) (by kernel_rfl) (fun _ _ _ h => h) (Or.inl ⟨by rfl, by intro w; go_simp⟩) ?_
        refine wpAny_ready (rs := [4, 5]) (by kernel_rfl) (by simp) ?_
        refine AllReady.cons rfl (fun Kk hKk => ?_) (AllReady.cons rfl (fun Kk hKk => ?_) AllReady.nil)
        · skip
          go_simp
          refine hKk _ _ ?_
          clear hKk Kk
          refine wpAny_ready (rs := [5]) (by kernel_rfl) (by simp) ?_
          refine AllReady.cons rfl (fun Kk hKk => ?_) AllReady.nil
          go_simp
          refine hKk _ _ ?_
          clear hKk Kk
          refine wpAny_ready (rs := [6]) (by kernel_rfl) (by simp) ?_
          refine AllReady.cons rfl (fun Kk hKk => ?_) AllReady.nil
          go_simp
          refine (copied_cl WD B x.p x.rc (.slice a1 n1 k1) (.slice a2 n2 k2) x.wt x.iv x.rp x.ct x.ms x.ns HMD.out.1 HMD.out.2 HOK2.out.1 HOK2.out.2).mono ?_
          rintro e w2 ⟨mv2, bv2, rfl, hcm, hcs, hb2⟩
          have HB2 := Lib.hid (HBD.out.trans (hb2.mono hwD))
          have HZ2 := Lib.hid (HTD.out.below hb2)
          have HLD2 := Lib.hid (HLD.out.below hb2)
          have HRD2 := Lib.hid (HRD.out.like (hb2.block _ HRD.out.lt) hb2.size)
          have HCC := Lib.hid (And.intro hcm hcs)
          obtain ⟨b1, p1, q1, rfl⟩ := hcm.shape
          obtain ⟨b2, p2, q2, rfl⟩ := hcs.shape
          have hz2 := hb2.size
          have x2 := HZ2.out.t0
          have x2f := HZ2.out.tf 0
          have hzt := HZ2.out.ltt
          clear hb2 hcm hcs
          refine hKk _ _ ?_
          clear hKk Kk
          refine wpAny_ready (rs := [7]) (by kernel_rfl) (by simp) ?_
          refine AllReady.cons rfl (fun Kk hKk => ?_) AllReady.nil
          go_simp
          refine hKk _ _ ?_
          clear hKk Kk
          refine wpAny_ready (rs := [8]) (by kernel_rfl) (by simp) ?_
          refine AllReady.cons rfl (fun Kk hKk => ?_) AllReady.nil
          have hAl : Below w2.heap.size w2 (w2.alloc (.cells #[.int .i64 x.p, .string x.rc, .slice b1 p1 q1, .slice b2 p2 q2, .bool false, .int .i64 x.wt, .int .i64 x.iv, .int .i64 x.rp, .bool x.ct] 33)) := (Below.refl _ _).alloc (Nat.le_refl _) _
          have HZ3 := Lib.hid (HZ2.out.below hAl)
          have HOFF := Lib.hid (rec_new (D := dyn tb kb (.slice l1 l2 l3) sv kv) (x := x) (c := ⟨.slice b1 p1 q1, .slice b2 p2 q2, xb, v, bs, X.heap.size, w2.heap.size⟩) (HLD2.out.below hAl) (HCC.out.1.below hAl) (HCC.out.2.below hAl) (fun d hd => by have := HHI.out.1 d hd; show d < X.heap.size; omega) hwD2 (LsNew.in (c := ⟨.slice b1 p1 q1, .slice b2 p2 q2, xb, v, bs, X.heap.size, w2.heap.size⟩) HLD2.out HCC.out.1 HCC.out.2 hwD2 (Nat.le_refl _)))
          have x3 : (w2.alloc (.cells #[.int .i64 x.p, .string x.rc, .slice b1 p1 q1, .slice b2 p2 q2, .bool false, .int .i64 x.wt, .int .i64 x.iv, .int .i64 x.rp, .bool x.ct] 33)).cell? ⟨tb, 0, none⟩ = some (.slice l1 l2 l3) := (World.cell?_alloc_past _ _ _ (by show tb < w2.heap.size; exact hzt)).trans x2
          clear hAl
          refine step_append_lies _ (by rfl) _ _ _ (by rfl) w.heap.size 33 e0 _ 9 112 Tryz.underlying37 he0 hez0 hez1 hez2 rfl (by omega) (.slice l1 l2 l3) ((rs.take k).zip cs).length (flatR ((rs.take k).zip cs)) (by rfl) HZ3.out.ol ⟨w2.heap.size, 0, none⟩ 1 1 (rtCells x ⟨.slice b1 p1 q1, .slice b2 p2 q2, xb, v, bs, X.heap.size, w2.heap.size⟩) (by rfl) (by rfl) (World.news_of_block (cs := #[.int .i64 x.p, .string x.rc, .slice b1 p1 q1, .slice b2 p2 q2, .bool false, .int .i64 x.wt, .int .i64 x.iv, .int .i64 x.rp, .bool x.ct]) (t := 33) (fr := (0, 0)) (heap_alloc_new w2 _)) (by intro u hu; simp [rtCells] at hu; rcases hu with rfl | rfl | rfl | rfl | rfl | rfl | rfl | rfl | rfl <;> rfl) (by omega) (by rw [hzl]; unfold maxLen; omega) (by rw [hzl]; omega) (by simp; omega) (w2.heap.size + 1) (by simp) ?_
          intro gg cap' w7 hown7 hgrow hat hlt7
          have HE := Lib.hid (HZ3.out.addL (p := (x, ⟨.slice b1 p1 q1, .slice b2 p2 q2, xb, v, bs, X.heap.size, w2.heap.size⟩)) hown7 hgrow (hat.imp id (fun e => by rw [e]; simp)) HOFF.out (by show X.heap.size ≤ w2.heap.size; omega) (by show w2.heap.size ≤ _; simp) (fun d hd => .inl (by have := HHI.out.1 d hd; show d < X.heap.size; omega)) (fun q hq => by have := HHI.out.2 q hq; show q.2.hi ≤ X.heap.size; omega) (by show w.heap.size ≤ X.heap.size; omega))
          have HB7 := Lib.hid ((HB2.out.alloc (by omega) (.cells #[.int .i64 x.p, .string x.rc, .slice b1 p1 q1, .slice b2 p2 q2, .bool false, .int .i64 x.wt, .int .i64 x.iv, .int .i64 x.rp, .bool x.ct] 33)).grown hgrow (by simp; omega) (fun d hd => (HZ3.out.ol.lt d hd).1))
          have HR7 := Lib.hid ((HRD2.out.like (Below.heap_alloc _ (.cells #[.int .i64 x.p, .string x.rc, .slice b1 p1 q1, .slice b2 p2 q2, .bool false, .int .i64 x.wt, .int .i64 x.iv, .int .i64 x.rp, .bool x.ct] 33) _ HRD2.out.lt) (by simp)).grown hgrow (fun d hd => HHI.out.1 d (mem_dyn.2 (.inr (.inr (.inl hd))))))
          have y7 := HE.out.1
          have f7 := HE.out.2.1
          clear hown7 hgrow hat
          refine hKk _ _ ?_
          clear hKk Kk
          refine wpAny_ready (rs := [9]) (by kernel_rfl) (by simp) ?_
          refine AllReady.cons rfl (fun Kk hKk => ?_) AllReady.nil
          go_simp
          refine hKk _ _ ?_
          clear hKk Kk
          refine wpAny_ready (rs := [10]) (by kernel_rfl) (by simp) ?_
          refine AllReady.cons rfl (fun Kk hKk => ?_) AllReady.nil
          go_simp
          refine hKk _ _ ?_
          clear hKk Kk
          refine wpAny_ready (rs := [11]) (by kernel_rfl) (by simp) ?_
          refine AllReady.cons rfl (fun Kk hKk => ?_) AllReady.nil
          go_simp
          refine hKk _ _ ?_
          clear hKk Kk
          refine wpAny_done (by kernel_rfl) ?_ _
          go_wp2_with fail
          go_meet
          exact ⟨HB7.out.setCell (p := ⟨tb, 0, none⟩) htl _, _, ⟨.slice b1 p1 q1, .slice b2 p2 q2, xb, v, bs, X.heap.size, w2.heap.size⟩, rfl, HR7.out.like (Below.heap_setCell _ _ _ _ hwt) (by rw [setCell_size]; exact Nat.le_refl _), (by have q := HE.out.2.2; rw [hzl] at q; exact q)⟩
        · skip
          go_simp
          refine hKk _ _ ?_
          clear hKk Kk
          refine wpAny_ready (rs := [4, 6]) (by kernel_rfl) (by simp) ?_
          refine AllReady.cons rfl (fun Kk hKk => ?_) (AllReady.cons rfl (fun Kk hKk => ?_) AllReady.nil)
          · skip
            go_simp
            refine hKk _ _ ?_
            clear hKk Kk
            refine wpAny_ready (rs := [6]) (by kernel_rfl) (by simp) ?_
            refine AllReady.cons rfl (fun Kk hKk => ?_) AllReady.nil
            go_simp
            refine (copied_cl WD B x.p x.rc (.slice a1 n1 k1) (.slice a2 n2 k2) x.wt x.iv x.rp x.ct x.ms x.ns HMD.out.1 HMD.out.2 HOK2.out.1 HOK2.out.2).mono ?_
            rintro e w2 ⟨mv2, bv2, rfl, hcm, hcs, hb2⟩
            have HB2 := Lib.hid (HBD.out.trans (hb2.mono hwD))
            have HZ2 := Lib.hid (HTD.out.below hb2)
            have HLD2 := Lib.hid (HLD.out.below hb2)
            have HRD2 := Lib.hid (HRD.out.like (hb2.block _ HRD.out.lt) hb2.size)
            have HCC := Lib.hid (And.intro hcm hcs)
            obtain ⟨b1, p1, q1, rfl⟩ := hcm.shape
            obtain ⟨b2, p2, q2, rfl⟩ := hcs.shape
            have hz2 := hb2.size
            have x2 := HZ2.out.t0
            have x2f := HZ2.out.tf 0
            have hzt := HZ2.out.ltt
            clear hb2 hcm hcs
            refine hKk _ _ ?_
            clear hKk Kk
            refine wpAny_ready (rs := [7]) (by kernel_rfl) (by simp) ?_
            refine AllReady.cons rfl (fun Kk hKk => ?_) AllReady.nil
            go_simp
            refine hKk _ _ ?_
            clear hKk Kk
            refine wpAny_ready (rs := [8]) (by kernel_rfl) (by simp) ?_
            refine AllReady.cons rfl (fun Kk hKk => ?_) AllReady.nil
            have hAl : Below w2.heap.size w2 (w2.alloc (.cells #[.int .i64 x.p, .string x.rc, .slice b1 p1 q1, .slice b2 p2 q2, .bool false, .int .i64 x.wt, .int .i64 x.iv, .int .i64 x.rp, .bool x.ct] 33)) := (Below.refl _ _).alloc (Nat.le_refl _) _
            have HZ3 := Lib.hid (HZ2.out.below hAl)
            have HOFF := Lib.hid (rec_new (D := dyn tb kb (.slice l1 l2 l3) sv kv) (x := x) (c := ⟨.slice b1 p1 q1, .slice b2 p2 q2, xb, v, bs, X.heap.size, w2.heap.size⟩) (HLD2.out.below hAl) (HCC.out.1.below hAl) (HCC.out.2.below hAl) (fun d hd => by have := HHI.out.1 d hd; show d < X.heap.size; omega) hwD2 (LsNew.in (c := ⟨.slice b1 p1 q1, .slice b2 p2 q2, xb, v, bs, X.heap.size, w2.heap.size⟩) HLD2.out HCC.out.1 HCC.out.2 hwD2 (Nat.le_refl _)))
            have x3 : (w2.alloc (.cells #[.int .i64 x.p, .string x.rc, .slice b1 p1 q1, .slice b2 p2 q2, .bool false, .int .i64 x.wt, .int .i64 x.iv, .int .i64 x.rp, .bool x.ct] 33)).cell? ⟨tb, 0, none⟩ = some (.slice l1 l2 l3) := (World.cell?_alloc_past _ _ _ (by show tb < w2.heap.size; exact hzt)).trans x2
            clear hAl
            refine step_append_lies _ (by rfl) _ _ _ (by rfl) w.heap.size 33 e0 _ 9 112 Tryz.underlying37 he0 hez0 hez1 hez2 rfl (by omega) (.slice l1 l2 l3) ((rs.take k).zip cs).length (flatR ((rs.take k).zip cs)) (by rfl) HZ3.out.ol ⟨w2.heap.size, 0, none⟩ 1 1 (rtCells x ⟨.slice b1 p1 q1, .slice b2 p2 q2, xb, v, bs, X.heap.size, w2.heap.size⟩) (by rfl) (by rfl) (World.news_of_block (cs := #[.int .i64 x.p, .string x.rc, .slice b1 p1 q1, .slice b2 p2 q2, .bool false, .int .i64 x.wt, .int .i64 x.iv, .int .i64 x.rp, .bool x.ct]) (t := 33) (fr := (0, 0)) (heap_alloc_new w2 _)) (by intro u hu; simp [rtCells] at hu; rcases hu with rfl | rfl | rfl | rfl | rfl | rfl | rfl | rfl | rfl <;> rfl) (by omega) (by rw [hzl]; unfold maxLen; omega) (by rw [hzl]; omega) (by simp; omega) (w2.heap.size + 1) (by simp) ?_
            intro gg cap' w7 hown7 hgrow hat hlt7
            have HE := Lib.hid (HZ3.out.addL (p := (x, ⟨.slice b1 p1 q1, .slice b2 p2 q2, xb, v, bs, X.heap.size, w2.heap.size⟩)) hown7 hgrow (hat.imp id (fun e => by rw [e]; simp)) HOFF.out (by show X.heap.size ≤ w2.heap.size; omega) (by show w2.heap.size ≤ _; simp) (fun d hd => .inl (by have := HHI.out.1 d hd; show d < X.heap.size; omega)) (fun q hq => by have := HHI.out.2 q hq; show q.2.hi ≤ X.heap.size; omega) (by show w.heap.size ≤ X.heap.size; omega))
            have HB7 := Lib.hid ((HB2.out.alloc (by omega) (.cells #[.int .i64 x.p, .string x.rc, .slice b1 p1 q1, .slice b2 p2 q2, .bool false, .int .i64 x.wt, .int .i64 x.iv, .int .i64 x.rp, .bool x.ct] 33)).grown hgrow (by simp; omega) (fun d hd => (HZ3.out.ol.lt d hd).1))
            have HR7 := Lib.hid ((HRD2.out.like (Below.heap_alloc _ (.cells #[.int .i64 x.p, .string x.rc, .slice b1 p1 q1, .slice b2 p2 q2, .bool false, .int .i64 x.wt, .int .i64 x.iv, .int .i64 x.rp, .bool x.ct] 33) _ HRD2.out.lt) (by simp)).grown hgrow (fun d hd => HHI.out.1 d (mem_dyn.2 (.inr (.inr (.inl hd))))))
            have y7 := HE.out.1
            have f7 := HE.out.2.1
            clear hown7 hgrow hat
            refine hKk _ _ ?_
            clear hKk Kk
            refine wpAny_ready (rs := [9]) (by kernel_rfl) (by simp) ?_
            refine AllReady.cons rfl (fun Kk hKk => ?_) AllReady.nil
            go_simp
            refine hKk _ _ ?_
            clear hKk Kk
            refine wpAny_ready (rs := [10]) (by kernel_rfl) (by simp) ?_
            refine AllReady.cons rfl (fun Kk hKk => ?_) AllReady.nil
            go_simp
            refine hKk _ _ ?_
            clear hKk Kk
            refine wpAny_ready (rs := [11]) (by kernel_rfl) (by simp) ?_
            refine AllReady.cons rfl (fun Kk hKk => ?_) AllReady.nil
            go_simp
            refine hKk _ _ ?_
            clear hKk Kk
            refine wpAny_done (by kernel_rfl) ?_ _
            go_wp2_with fail
            go_meet
            exact ⟨HB7.out.setCell (p := ⟨tb, 0, none⟩) htl _, _, ⟨.slice b1 p1 q1, .slice b2 p2 q2, xb, v, bs, X.heap.size, w2.heap.size⟩, rfl, HR7.out.like (Below.heap_setCell _ _ _ _ hwt) (by rw [setCell_size]; exact Nat.le_refl _), (by have q := HE.out.2.2; rw [hzl] at q; exact q)⟩
          · skip
            go_simp
            refine (copied_cl WD B x.p x.rc (.slice a1 n1 k1) (.slice a2 n2 k2) x.wt x.iv x.rp x.ct x.ms x.ns HMD.out.1 HMD.out.2 HOK2.out.1 HOK2.out.2).mono ?_
            rintro e w2 ⟨mv2, bv2, rfl, hcm, hcs, hb2⟩
            have HB2 := Lib.hid (HBD.out.trans (hb2.mono hwD))
            have HZ2 := Lib.hid (HTD.out.below hb2)
            have HLD2 := Lib.hid (HLD.out.below hb2)
            have HRD2 := Lib.hid (HRD.out.like (hb2.block _ HRD.out.lt) hb2.size)
            have HCC := Lib.hid (And.intro hcm hcs)
            obtain ⟨b1, p1, q1, rfl⟩ := hcm.shape
            obtain ⟨b2, p2, q2, rfl⟩ := hcs.shape
            have hz2 := hb2.size
            have x2 := HZ2.out.t0
            have x2f := HZ2.out.tf 0
            have hzt := HZ2.out.ltt
            clear hb2 hcm hcs
            refine hKk _ _ ?_
            clear hKk Kk
            refine wpAny_ready (rs := [4, 7]) (by kernel_rfl) (by simp) ?_
            refine AllReady.cons rfl (fun Kk hKk => ?_) (AllReady.cons rfl (fun Kk hKk => ?_) AllReady.nil)
            · skip
              go_simp
              refine hKk _ _ ?_
              clear hKk Kk
              refine wpAny_ready (rs := [7]) (by kernel_rfl) (by simp) ?_
              refine AllReady.cons rfl (fun Kk hKk => ?_) AllReady.nil
              go_simp
              refine hKk _ _ ?_
              clear hKk Kk
              refine wpAny_ready (rs := [8]) (by kernel_rfl) (by simp) ?_
              refine AllReady.cons rfl (fun Kk hKk => ?_) AllReady.nil
              have hAl : Below w2.heap.size w2 (w2.alloc (.cells #[.int .i64 x.p, .string x.rc, .slice b1 p1 q1, .slice b2 p2 q2, .bool false, .int .i64 x.wt, .int .i64 x.iv, .int .i64 x.rp, .bool x.ct] 33)) := (Below.refl _ _).alloc (Nat.le_refl _) _
              have HZ3 := Lib.hid (HZ2.out.below hAl)
              have HOFF := Lib.hid (rec_new (D := dyn tb kb (.slice l1 l2 l3) sv kv) (x := x) (c := ⟨.slice b1 p1 q1, .slice b2 p2 q2, xb, v, bs, X.heap.size, w2.heap.size⟩) (HLD2.out.below hAl) (HCC.out.1.below hAl) (HCC.out.2.below hAl) (fun d hd => by have := HHI.out.1 d hd; show d < X.heap.size; omega) hwD2 (LsNew.in (c := ⟨.slice b1 p1 q1, .slice b2 p2 q2, xb, v, bs, X.heap.size, w2.heap.size⟩) HLD2.out HCC.out.1 HCC.out.2 hwD2 (Nat.le_refl _)))
              have x3 : (w2.alloc (.cells #[.int .i64 x.p, .string x.rc, .slice b1 p1 q1, .slice b2 p2 q2, .bool false, .int .i64 x.wt, .int .i64 x.iv, .int .i64 x.rp, .bool x.ct] 33)).cell? ⟨tb, 0, none⟩ = some (.slice l1 l2 l3) := (World.cell?_alloc_past _ _ _ (by show tb < w2.heap.size; exact hzt)).trans x2
              clear hAl
              refine step_append_lies _ (by rfl) _ _ _ (by rfl) w.heap.size 33 e0 _ 9 112 Tryz.underlying37 he0 hez0 hez1 hez2 rfl (by omega) (.slice l1 l2 l3) ((rs.take k).zip cs).length (flatR ((rs.take k).zip cs)) (by rfl) HZ3.out.ol ⟨w2.heap.size, 0, none⟩ 1 1 (rtCells x ⟨.slice b1 p1 q1, .slice b2 p2 q2, xb, v, bs, X.heap.size, w2.heap.size⟩) (by rfl) (by rfl) (World.news_of_block (cs := #[.int .i64 x.p, .string x.rc, .slice b1 p1 q1, .slice b2 p2 q2, .bool false, .int .i64 x.wt, .int .i64 x.iv, .int .i64 x.rp, .bool x.ct]) (t := 33) (fr := (0, 0)) (heap_alloc_new w2 _)) (by intro u hu; simp [rtCells] at hu; rcases hu with rfl | rfl | rfl | rfl | rfl | rfl | rfl | rfl | rfl <;> rfl) (by omega) (by rw [hzl]; unfold maxLen; omega) (by rw [hzl]; omega) (by simp; omega) (w2.heap.size + 1) (by simp) ?_
              intro gg cap' w7 hown7 hgrow hat hlt7
              have HE := Lib.hid (HZ3.out.addL (p := (x, ⟨.slice b1 p1 q1, .slice b2 p2 q2, xb, v, bs, X.heap.size, w2.heap.size⟩)) hown7 hgrow (hat.imp id (fun e => by rw [e]; simp)) HOFF.out (by show X.heap.size ≤ w2.heap.size; omega) (by show w2.heap.size ≤ _; simp) (fun d hd => .inl (by have := HHI.out.1 d hd; show d < X.heap.size; omega)) (fun q hq => by have := HHI.out.2 q hq; show q.2.hi ≤ X.heap.size; omega) (by show w.heap.size ≤ X.heap.size; omega))
              have HB7 := Lib.hid ((HB2.out.alloc (by omega) (.cells #[.int .i64 x.p, .string x.rc, .slice b1 p1 q1, .slice b2 p2 q2, .bool false, .int .i64 x.wt, .int .i64 x.iv, .int .i64 x.rp, .bool x.ct] 33)).grown hgrow (by simp; omega) (fun d hd => (HZ3.out.ol.lt d hd).1))
              have HR7 := Lib.hid ((HRD2.out.like (Below.heap_alloc _ (.cells #[.int .i64 x.p, .string x.rc, .slice b1 p1 q1, .slice b2 p2 q2, .bool false, .int .i64 x.wt, .int .i64 x.iv, .int .i64 x.rp, .bool x.ct] 33) _ HRD2.out.lt) (by simp)).grown hgrow (fun d hd => HHI.out.1 d (mem_dyn.2 (.inr (.inr (.inl hd))))))
              have y7 := HE.out.1
              have f7 := HE.out.2.1
              clear hown7 hgrow hat
              refine hKk _ _ ?_
              clear hKk Kk
              refine wpAny_ready (rs := [9]) (by kernel_rfl) (by simp) ?_
              refine AllReady.cons rfl (fun Kk hKk => ?_) AllReady.nil
              go_simp
              refine hKk _ _ ?_
              clear hKk Kk
              refine wpAny_ready (rs := [10]) (by kernel_rfl) (by simp) ?_
              refine AllReady.cons rfl (fun Kk hKk => ?_) AllReady.nil
              go_simp
              refine hKk _ _ ?_
              clear hKk Kk
              refine wpAny_ready (rs := [11]) (by kernel_rfl) (by simp) ?_
              refine AllReady.cons rfl (fun Kk hKk => ?_) AllReady.nil
              go_simp
              refine hKk _ _ ?_
              clear hKk Kk
              refine wpAny_done (by kernel_rfl) ?_ _
              go_wp2_with fail
              go_meet
              exact ⟨HB7.out.setCell (p := ⟨tb, 0, none⟩) htl _, _, ⟨.slice b1 p1 q1, .slice b2 p2 q2, xb, v, bs, X.heap.size, w2.heap.size⟩, rfl, HR7.out.like (Below.heap_setCell _ _ _ _ hwt) (by rw [setCell_size]; exact Nat.le_refl _), (by have q := HE.out.2.2; rw [hzl] at q; exact q)⟩
            · skip
              go_simp
              refine hKk _ _ ?_
              clear hKk Kk
              refine wpAny_ready (rs := [4]) (by kernel_rfl) (by simp) ?_
              refine AllReady.cons rfl (fun Kk hKk => ?_) AllReady.nil
              go_simp
              refine hKk _ _ ?_
              clear hKk Kk
              refine wpAny_ready (rs := [8]) (by kernel_rfl) (by simp) ?_
              refine AllReady.cons rfl (fun Kk hKk => ?_) AllReady.nil
              have hAl : Below w2.heap.size w2 (w2.alloc (.cells #[.int .i64 x.p, .string x.rc, .slice b1 p1 q1, .slice b2 p2 q2, .bool false, .int .i64 x.wt, .int .i64 x.iv, .int .i64 x.rp, .bool x.ct] 33)) := (Below.refl _ _).alloc (Nat.le_refl _) _
              have HZ3 := Lib.hid (HZ2.out.below hAl)
              have HOFF := Lib.hid (rec_new (D := dyn tb kb (.slice l1 l2 l3) sv kv) (x := x) (c := ⟨.slice b1 p1 q1, .slice b2 p2 q2, xb, v, bs, X.heap.size, w2.heap.size⟩) (HLD2.out.below hAl) (HCC.out.1.below hAl) (HCC.out.2.below hAl) (fun d hd => by have := HHI.out.1 d hd; show d < X.heap.size; omega) hwD2 (LsNew.in (c := ⟨.slice b1 p1 q1, .slice b2 p2 q2, xb, v, bs, X.heap.size, w2.heap.size⟩) HLD2.out HCC.out.1 HCC.out.2 hwD2 (Nat.le_refl _)))
              have x3 : (w2.alloc (.cells #[.int .i64 x.p, .string x.rc, .slice b1 p1 q1, .slice b2 p2 q2, .bool false, .int .i64 x.wt, .int .i64 x.iv, .int .i64 x.rp, .bool x.ct] 33)).cell? ⟨tb, 0, none⟩ = some (.slice l1 l2 l3) := (World.cell?_alloc_past _ _ _ (by show tb < w2.heap.size; exact hzt)).trans x2
              clear hAl
              refine step_append_lies _ (by rfl) _ _ _ (by rfl) w.heap.size 33 e0 _ 9 112 Tryz.underlying37 he0 hez0 hez1 hez2 rfl (by omega) (.slice l1 l2 l3) ((rs.take k).zip cs).length (flatR ((rs.take k).zip cs)) (by rfl) HZ3.out.ol ⟨w2.heap.size, 0, none⟩ 1 1 (rtCells x ⟨.slice b1 p1 q1, .slice b2 p2 q2, xb, v, bs, X.heap.size, w2.heap.size⟩) (by rfl) (by rfl) (World.news_of_block (cs := #[.int .i64 x.p, .string x.rc, .slice b1 p1 q1, .slice b2 p2 q2, .bool false, .int .i64 x.wt, .int .i64 x.iv, .int .i64 x.rp, .bool x.ct]) (t := 33) (fr := (0, 0)) (heap_alloc_new w2 _)) (by intro u hu; simp [rtCells] at hu; rcases hu with rfl | rfl | rfl | rfl | rfl | rfl | rfl | rfl | rfl <;> rfl) (by omega) (by rw [hzl]; unfold maxLen; omega) (by rw [hzl]; omega) (by simp; omega) (w2.heap.size + 1) (by simp) ?_
              intro gg cap' w7 hown7 hgrow hat hlt7
              have HE := Lib.hid (HZ3.out.addL (p := (x, ⟨.slice b1 p1 q1, .slice b2 p2 q2, xb, v, bs, X.heap.size, w2.heap.size⟩)) hown7 hgrow (hat.imp id (fun e => by rw [e]; simp)) HOFF.out (by show X.heap.size ≤ w2.heap.size; omega) (by show w2.heap.size ≤ _; simp) (fun d hd => .inl (by have := HHI.out.1 d hd; show d < X.heap.size; omega)) (fun q hq => by have := HHI.out.2 q hq; show q.2.hi ≤ X.heap.size; omega) (by show w.heap.size ≤ X.heap.size; omega))
              have HB7 := Lib.hid ((HB2.out.alloc (by omega) (.cells #[.int .i64 x.p, .string x.rc, .slice b1 p1 q1, .slice b2 p2 q2, .bool false, .int .i64 x.wt, .int .i64 x.iv, .int .i64 x.rp, .bool x.ct] 33)).grown hgrow (by simp; omega) (fun d hd => (HZ3.out.ol.lt d hd).1))
              have HR7 := Lib.hid ((HRD2.out.like (Below.heap_alloc _ (.cells #[.int .i64 x.p, .string x.rc, .slice b1 p1 q1, .slice b2 p2 q2, .bool false, .int .i64 x.wt, .int .i64 x.iv, .int .i64 x.rp, .bool x.ct] 33) _ HRD2.out.lt) (by simp)).grown hgrow (fun d hd => HHI.out.1 d (mem_dyn.2 (.inr (.inr (.inl hd))))))
              have y7 := HE.out.1
              have f7 := HE.out.2.1
              clear hown7 hgrow hat
              refine hKk _ _ ?_
              clear hKk Kk
              refine wpAny_ready (rs := [9]) (by kernel_rfl) (by simp) ?_
              refine AllReady.cons rfl (fun Kk hKk => ?_) AllReady.nil
              go_simp
              refine hKk _ _ ?_
              clear hKk Kk
              refine wpAny_ready (rs := [10]) (by kernel_rfl) (by simp) ?_
              refine AllReady.cons rfl (fun Kk hKk => ?_) AllReady.nil
              go_simp
              refine hKk _ _ ?_
              clear hKk Kk
              refine wpAny_ready (rs := [11]) (by kernel_rfl) (by simp) ?_
              refine AllReady.cons rfl (fun Kk hKk => ?_) AllReady.nil
              go_simp
              refine hKk _ _ ?_
              clear hKk Kk
              refine wpAny_done (by kernel_rfl) ?_ _
              go_wp2_with fail
              go_meet
              exact ⟨HB7.out.setCell (p := ⟨tb, 0, none⟩) htl _, _, ⟨.slice b1 p1 q1, .slice b2 p2 q2, xb, v, bs, X.heap.size, w2.heap.size⟩, rfl, HR7.out.like (Below.heap_setCell _ _ _ _ hwt) (by rw [setCell_size]; exact Nat.le_refl _), (by have q := HE.out.2.2; rw [hzl] at q; exact q)⟩
        -- ]]
      case rest =>
        obtain ⟨hbc, lv', cc, hcx, hrc, htc⟩ := hcut
        clear HTY HLS HMY HRY HBY
        have HBC := Lib.hid hbc
        have HRC := Lib.hid hrc
        have HTC := Lib.hid htc
        have hzl : ((rs.take k).zip cs).length = k := by rw [List.length_zip, List.length_take, HCS.out]; omega
        have t1 := htc.t1
        obtain ⟨s1, s2, s3, rfl⟩ := row_shape htc.os
        have hbz := hbc.size
        have HNF := Lib.hid (news_oneS wc 63 (.func (.func 45) #[.pointer (some ⟨xb, 0, none⟩)] #[]))
        have hOS := htc.os
        rw [hzl] at hOS
        have HOS := Lib.hid hOS
        obtain ⟨j0, hj0, hjz0, hjz1, hjz2⟩ := info_parts infoFn
        clear hbc hrc htc hOS
        go_wp2_with (at_builtin; go_loud (refine wpList_append_lies _ rfl _ _ _ rfl w.heap.size 63 j0 _ 1 8 Tryz.underlying48 hj0 hjz0 hjz1 hjz2 rfl (by omega) (.slice s1 s2 s3) k (((rs.take k).zip cs).map fun p => saysFn p.2) rfl (HOS.out.alloc _) ⟨wc.heap.size, 0, none⟩ 1 1 [(.func (.func 45) #[.pointer (some ⟨xb, 0, none⟩)] #[])] rfl rfl HNF.out (by intro u hu; rw [List.mem_singleton.1 hu]; rfl) (by omega) (by unfold maxLen; omega) (by omega) (by simp; omega) (wc.heap.size + 1) (by simp) ?_))
        intro g1 cap1 V1 hown hgrow hat hgl
        have hAl : Below wc.heap.size wc (wc.alloc (.cells #[(.func (.func 45) #[.pointer (some ⟨xb, 0, none⟩)] #[])] 63)) := (Below.refl _ _).alloc (Nat.le_refl _) _
        have hZ := HTC.out.below hAl
        have hRA := HRC.out.like (hAl.block _ HRC.out.lt) hAl.size
        have hBA := HBC.out.trans (hAl.mono hbz)
        have HE := Lib.hid (hZ.addS (p := (x, cc)) (g := g1) (cap := cap1) (by rw [hzl]; simpa only [saysFn, hcx] using hown) hgrow (hat.imp id (fun e => by rw [e]; simp)))
        have HR1 := Lib.hid (hRA.grown hgrow (fun d hd => HHI.out.1 d (mem_dyn.2 (.inr (.inr (.inr (.inl hd)))))))
        have HB1 := Lib.hid (hBA.grown hgrow (by have := hBA.size; exact this) (fun d hd => (hZ.os.lt d hd).1))
        have y1 := HE.out.1
        have yf := HE.out.2.1
        have hwt : wr.heap.size ≠ tb := fun e => by have := HHI.out.1 tb (mem_dyn.2 (.inl rfl)); omega
        have hwk : kb ≠ wr.heap.size := fun e => by have := HHI.out.1 kb (mem_dyn.2 (.inr (.inl rfl))); omega
        have HV : Hid (∀ V2, V2 = V1.setCell ⟨tb, 1, none⟩ (.slice (some ⟨g1, 0, none⟩) (k + 1) cap1) → Below w.heap.size w V2 ∧ RtAt V2 wr.heap.size x.p x.rc (.slice a1 n1 k1) (.slice a2 n2 k2) x.wt x.iv x.rp x.ct ∧ TrAt V2 tb kb w.heap.size rs.length lv' (.slice (some ⟨g1, 0, none⟩) (k + 1) cap1) kv ((rs.take k).zip cs ++ [(x, cc)]) ((rs.take k).zip cs ++ [(x, cc)]) (k - 1)) := by
          rintro V2 rfl
          have q := HE.out.2.2
          rw [hzl] at q
          exact ⟨HB1.out.setCell (p := ⟨tb, 1, none⟩) htl _, HR1.out.like (Below.heap_setCell _ _ _ _ hwt) (by rw [setCell_size]; exact Nat.le_refl _), q⟩
        clear hown hgrow hat hgl hAl hZ hRA hBA HTC HRC HBC HOS HNF t1 HE HR1 HB1
        have HZT := Lib.hid (zip_take cc HXK.out HCS.out)
        by_cases hk0 : 0 < k
        · have hk1 : decide ((0 : Int) < (k : Int)) = true := by simpa using hk0
          have HXP := Lib.hid (HO.out.later hk0)
          go_wp2_with fail
          generalize hVe : V1.setCell ⟨tb, 1, none⟩ (.slice (some ⟨g1, 0, none⟩) (k + 1) cap1) = V2
          obtain ⟨hbV, hrV, htV⟩ := HV.out V2 hVe.symm
          have HBV := Lib.hid hbV
          have HRV := Lib.hid hrV
          have HTV := Lib.hid htV
          clear HV hVe hbV hrV htV y1 yf
          obtain ⟨q1, q2, q3, rfl⟩ := row_shape HTV.out.ok
          obtain ⟨e0, he0, hez0, hez1, hez2⟩ := info_parts infoInt
          have hkc : ((k - 1 : Nat) : Int) + 1 = k := by omega
          have hA : Below V2.heap.size V2 V2.drew := (Below.refl _ _).drew
          have htD := HTV.out.below hA
          have hrD := HRV.out.like (hA.block _ HRV.out.lt) hA.size
          have hbD := HBV.out.trans (hA.mono HBV.out.size)
          obtain ⟨S, hSi, hS1, hS2⟩ : ∃ S : World → Prop, (∀ X : World, X.cell? ⟨tb, 2, none⟩ = some (.slice (some ⟨kb, 0, none⟩) rs.length rs.length) → X.cell? ⟨wr.heap.size, 0, none⟩ = some (.int .i64 0) → S X) ∧ (∀ X, S X → X.cell? ⟨tb, 2, none⟩ = some (.slice (some ⟨kb, 0, none⟩) rs.length rs.length)) ∧ (∀ X, S X → X.cell? ⟨wr.heap.size, 0, none⟩ = some (.int .i64 0)) := ⟨fun X => X.cell? ⟨tb, 2, none⟩ = some (.slice (some ⟨kb, 0, none⟩) rs.length rs.length) ∧ X.cell? ⟨wr.heap.size, 0, none⟩ = some (.int .i64 0), fun X a b => ⟨a, b⟩, fun X h => h.1, fun X h => h.2⟩
          have hheld0 : S V2.drew := hSi _ htD.t2 (by rw [← HXP.out]; exact hrD.c0)
          refine wp_region_held_drew (S := S) (by kernel_rfl) hheld0 (fun hheld => ?_)
          clear hheld0 hA
          generalize V2.drew = VD at *
          have hAl : Below VD.heap.size VD (VD.alloc (.cells #[.int .i64 k] 3)) := (Below.refl _ _).alloc (Nat.le_refl _) _
          have HTA := Lib.hid (htD.below hAl)
          have HRA := Lib.hid (hrD.like (hAl.block _ hrD.lt) hAl.size)
          have HBA := Lib.hid (hbD.trans (hAl.mono hbD.size))
          have hSA : Hid (S (VD.alloc (.cells #[.int .i64 k] 3))) := Lib.hid (hSi _ HTA.out.t2 (by rw [← HXP.out]; exact HRA.out.c0))
          have c0 := htD.k0
          have c0f := htD.kf 0
          have c0A := HTA.out.k0
          have hn1 : 0 < rs.length := by omega
          have hkw : w.heap.size ≤ kb := hkl
          clear hAl htD hrD hbD HBV HRV HTV
          refine wpAnyH_take (i := 0) (v := .pointer (some ⟨tb, 0, none⟩)) rfl (by kernel_rfl) (by kernel_rfl) (by kernel_rfl) (fun _ _ _ h => h) (Or.inl ⟨by rfl, by intro x hx; go_simp⟩) hheld ?_
          refine wpAnyH_take (i := 1) (v := .pointer (some ⟨tb, 0, none⟩)) rfl (by kernel_rfl) (by kernel_rfl) (by kernel_rfl) (fun _ _ _ h => h) (Or.inl ⟨by rfl, by intro x hx; go_simp⟩) hheld ?_
          refine wpAnyH_take (i := 2) (v := .pointer (some ⟨tb, 2, none⟩)) rfl (by kernel_rfl) (by kernel_rfl) (by kernel_rfl) (fun _ _ _ h => h) (Or.inl ⟨by rfl, by intro x hx; go_simp⟩) hheld ?_
          refine wpAnyH_take (i := 3) (v := .slice (some ⟨kb, 0, none⟩) rs.length rs.length) rfl (by kernel_rfl) (by kernel_rfl) (by kernel_rfl) (fun _ _ _ h => h) (Or.inl ⟨by rfl, by intro x hx; have e := hS1 x hx; go_simp⟩) hheld ?_
          refine wpAnyH_take (i := 4) (v := .pointer (some ⟨wr.heap.size, 0, none⟩)) rfl (by kernel_rfl) (by kernel_rfl) (by kernel_rfl) (fun _ _ _ h => h) (Or.inl ⟨by rfl, by intro x hx; go_simp⟩) hheld ?_
          refine wpAnyH_take (i := 5) (v := .int .i64 0) rfl (by kernel_rfl) (by kernel_rfl) (by kernel_rfl) (fun _ _ _ h => h) (Or.inl ⟨by rfl, by intro x hx; have e := hS2 x hx; go_simp⟩) hheld ?_
          refine wpAnyH_take (i := 6) (v := .pointer (some ⟨tb, 0, none⟩)) rfl (by kernel_rfl) (by kernel_rfl) (by kernel_rfl) (fun _ _ _ h => h) (Or.inl ⟨by rfl, by intro x hx; go_simp⟩) hheld ?_
          refine wpAnyH_take (i := 7) (v := .pointer (some ⟨tb, 0, none⟩)) rfl (by kernel_rfl) (by kernel_rfl) (by kernel_rfl) (fun _ _ _ h => h) (Or.inl ⟨by rfl, by intro x hx; go_simp⟩) hheld ?_
          refine wpAnyH_take (i := 8) (v := .pointer (some ⟨tb, 2, none⟩)) rfl (by kernel_rfl) (by kernel_rfl) (by kernel_rfl) (fun _ _ _ h => h) (Or.inl ⟨by rfl, by intro x hx; go_simp⟩) hheld ?_
          refine wpAnyH_take (i := 9) (v := .slice (some ⟨kb, 0, none⟩) rs.length rs.length) rfl (by kernel_rfl) (by kernel_rfl) (by kernel_rfl) (fun _ _ _ h => h) (Or.inl ⟨by rfl, by intro x hx; have e := hS1 x hx; go_simp⟩) hheld ?_
          refine wpAnyH_take (i := 10) (v := .pointer (some ⟨wr.heap.size, 0, none⟩)) rfl (by kernel_rfl) (by kernel_rfl) (by kernel_rfl) (fun _ _ _ h => h) (Or.inl ⟨by rfl, by intro x hx; go_simp⟩) hheld ?_
          refine wpAnyH_take (i := 11) (v := .int .i64 0) rfl (by kernel_rfl) (by kernel_rfl) (by kernel_rfl) (fun _ _ _ h => h) (Or.inl ⟨by rfl, by intro x hx; have e := hS2 x hx; go_simp⟩) hheld ?_
          refine wpAnyH_take (i := 12) (v := .pointer (some ⟨kb, 0, none⟩)) rfl (by kernel_rfl) (by kernel_rfl) (by kernel_rfl) (fun _ _ _ h => h) (Or.inl ⟨by rfl, by intro x hx; go_simp⟩) hheld ?_
          refine wpAnyH_take (i := 14) (v := .int .i64 k) rfl (by kernel_rfl) (by kernel_rfl) (by kernel_rfl) (fun _ _ _ h => h) (Or.inl ⟨by rfl, by intro x hx; go_simp⟩) hheld ?_
          refine wpAnyH_ready (rs := [13, 15]) (by kernel_rfl) (by simp) ?_
          refine AllReadyH.cons rfl (fun Kk hKk => ?_) (AllReadyH.cons rfl (fun Kk hKk => ?_) AllReadyH.nil)
          · skip
            go_simp
            refine hKk.out _ _ hheld (fun hheld => ?_)
            clear hKk Kk
            refine wpAnyH_ready (rs := [15]) (by kernel_rfl) (by simp) ?_
            refine AllReadyH.cons rfl (fun Kk hKk => ?_) AllReadyH.nil
            go_simp
            refine hKk.out _ _ (hSA.out) (fun hheld => ?_)
            clear hKk Kk
            refine wpAnyH_ready (rs := [16]) (by kernel_rfl) (by simp) ?_
            refine AllReadyH.cons rfl (fun Kk hKk => ?_) AllReadyH.nil
            refine step_append_lies _ (by rfl) _ _ _ (by rfl) w.heap.size 3 e0 _ 1 8 Tryz.underlying24 he0 hez0 hez1 hez2 rfl (by omega) (.slice q1 q2 q3) (k - 1) (kidsOf (k - 1)) (by rfl) HTA.out.ok ⟨VD.heap.size, 0, none⟩ 1 1 [.int .i64 k] (by rfl) (by rfl) (World.news_of_block (cs := #[.int .i64 k]) (t := 3) (fr := (0, 0)) (heap_alloc_new VD _)) (by intro u hu; rw [List.mem_singleton.1 hu]; rfl) (by omega) (by unfold maxLen; omega) (by omega) HBA.out.size (VD.heap.size + 1) (by simp) ?_
            intro gg cap' w7 hown7 hgrow hat hlt7
            have HE2 := Lib.hid (HTA.out.addK (by rw [hkc]; exact hown7) hgrow (hat.imp id (fun e => by rw [e]; simp)))
            have HB7 := Lib.hid (HBA.out.grown hgrow (by have := HBA.out.size; exact this) (fun d hd => (HTA.out.ok.lt d hd).1))
            have HR7 := Lib.hid (HRA.out.grown hgrow (fun d hd => HHI.out.1 d (mem_dyn.2 (.inr (.inr (.inr (.inr hd)))))))
            have hg2 : w7.cell? ⟨tb, 2, none⟩ = some (.slice (some ⟨kb, 0, none⟩) rs.length rs.length) := (World.cell?_of_block (w := VD.alloc (.cells #[.int .i64 k] 3)) (a := ⟨tb, 2, none⟩) (hgrow.block tb HTA.out.ltt (fun e => (HTA.out.nk tb e.symm).1 rfl))).trans HTA.out.t2
            have HG2 := Lib.hid hg2
            have y7 := HE2.out.1
            have f7 := HE2.out.2.1
            clear hown7 hgrow hat hg2
            refine hKk.out _ _ (hSi w7 HG2.out (by rw [← HXP.out]; exact HR7.out.c0)) (fun hheld => ?_)
            clear hKk Kk
            refine wpAnyH_ready (rs := [17]) (by kernel_rfl) (by simp) ?_
            refine AllReadyH.cons rfl (fun Kk hKk => ?_) AllReadyH.nil
            go_simp
            refine hKk.out _ _ hheld (fun hheld => ?_)
            clear hKk Kk
            refine wpAnyH_ready (rs := [18]) (by kernel_rfl) (by simp) ?_
            refine AllReadyH.cons rfl (fun Kk hKk => ?_) AllReadyH.nil
            go_simp
            refine hKk.out _ _ (hSi _ ((World.cell?_setCell_far _ _ _ _ (fun e => HTA.out.ntk e.symm)).trans HG2.out) ((World.cell?_setCell_far _ _ _ _ hwk).trans (by rw [← HXP.out]; exact HR7.out.c0))) (fun hheld => ?_)
            clear hKk Kk
            refine wpAnyH_done (by kernel_rfl) ?_ _
            go_wp2_with fail
            go_roundg (gk - 1)
            case measure => omega
            case rel => exact ⟨k + 1, lv', _, _, cs ++ [cc], by omega, by simp, by rw [List.length_append, HCS.out]; rfl, HB7.out.setCell (p := ⟨kb, 0, none⟩) hkw _, by rw [HZT.out, show k + 1 - 1 = k - 1 + 1 by omega]; exact HE2.out.2.2⟩
          · skip
            go_simp
            refine hKk.out _ _ (hSA.out) (fun hheld => ?_)
            clear hKk Kk
            refine wpAnyH_ready (rs := [13]) (by kernel_rfl) (by simp) ?_
            refine AllReadyH.cons rfl (fun Kk hKk => ?_) AllReadyH.nil
            go_simp
            refine hKk.out _ _ hheld (fun hheld => ?_)
            clear hKk Kk
            refine wpAnyH_ready (rs := [16]) (by kernel_rfl) (by simp) ?_
            refine AllReadyH.cons rfl (fun Kk hKk => ?_) AllReadyH.nil
            refine step_append_lies _ (by rfl) _ _ _ (by rfl) w.heap.size 3 e0 _ 1 8 Tryz.underlying24 he0 hez0 hez1 hez2 rfl (by omega) (.slice q1 q2 q3) (k - 1) (kidsOf (k - 1)) (by rfl) HTA.out.ok ⟨VD.heap.size, 0, none⟩ 1 1 [.int .i64 k] (by rfl) (by rfl) (World.news_of_block (cs := #[.int .i64 k]) (t := 3) (fr := (0, 0)) (heap_alloc_new VD _)) (by intro u hu; rw [List.mem_singleton.1 hu]; rfl) (by omega) (by unfold maxLen; omega) (by omega) HBA.out.size (VD.heap.size + 1) (by simp) ?_
            intro gg cap' w7 hown7 hgrow hat hlt7
            have HE2 := Lib.hid (HTA.out.addK (by rw [hkc]; exact hown7) hgrow (hat.imp id (fun e => by rw [e]; simp)))
            have HB7 := Lib.hid (HBA.out.grown hgrow (by have := HBA.out.size; exact this) (fun d hd => (HTA.out.ok.lt d hd).1))
            have HR7 := Lib.hid (HRA.out.grown hgrow (fun d hd => HHI.out.1 d (mem_dyn.2 (.inr (.inr (.inr (.inr hd)))))))
            have hg2 : w7.cell? ⟨tb, 2, none⟩ = some (.slice (some ⟨kb, 0, none⟩) rs.length rs.length) := (World.cell?_of_block (w := VD.alloc (.cells #[.int .i64 k] 3)) (a := ⟨tb, 2, none⟩) (hgrow.block tb HTA.out.ltt (fun e => (HTA.out.nk tb e.symm).1 rfl))).trans HTA.out.t2
            have HG2 := Lib.hid hg2
            have y7 := HE2.out.1
            have f7 := HE2.out.2.1
            clear hown7 hgrow hat hg2
            refine hKk.out _ _ (hSi w7 HG2.out (by rw [← HXP.out]; exact HR7.out.c0)) (fun hheld => ?_)
            clear hKk Kk
            refine wpAnyH_ready (rs := [17]) (by kernel_rfl) (by simp) ?_
            refine AllReadyH.cons rfl (fun Kk hKk => ?_) AllReadyH.nil
            go_simp
            refine hKk.out _ _ hheld (fun hheld => ?_)
            clear hKk Kk
            refine wpAnyH_ready (rs := [18]) (by kernel_rfl) (by simp) ?_
            refine AllReadyH.cons rfl (fun Kk hKk => ?_) AllReadyH.nil
            go_simp
            refine hKk.out _ _ (hSi _ ((World.cell?_setCell_far _ _ _ _ (fun e => HTA.out.ntk e.symm)).trans HG2.out) ((World.cell?_setCell_far _ _ _ _ hwk).trans (by rw [← HXP.out]; exact HR7.out.c0))) (fun hheld => ?_)
            clear hKk Kk
            refine wpAnyH_done (by kernel_rfl) ?_ _
            go_wp2_with fail
            go_roundg (gk - 1)
            case measure => omega
            case rel => exact ⟨k + 1, lv', _, _, cs ++ [cc], by omega, by simp, by rw [List.length_append, HCS.out]; rfl, HB7.out.setCell (p := ⟨kb, 0, none⟩) hkw _, by rw [HZT.out, show k + 1 - 1 = k - 1 + 1 by omega]; exact HE2.out.2.2⟩
        · obtain rfl : k = 0 := by omega
          go_wp2_with fail
          go_roundg (gk - 1)
          case measure => omega
          case rel => exact ⟨1, lv', _, kv, cs ++ [cc], by omega, by simp, by rw [List.length_append, HCS.out]; rfl, (HV.out _ rfl).1, by rw [HZT.out]; exact (HV.out _ rfl).2.2⟩
    · obtain rfl : gk = 0 := by omega
      have htk : rs.take k = rs := List.take_of_length_le (by omega)
      rw [htk, show k = rs.length by omega] at HTR
      clear hb htr
      go_wp2_with fail
      go_ret3
      exact ⟨tb, kb, lv, sv, kv, cs, rfl, HB.out, by omega, htl, HTR.out⟩

end Go.Proofs.YteemciknbiloiaaGreatDoor.Ih
