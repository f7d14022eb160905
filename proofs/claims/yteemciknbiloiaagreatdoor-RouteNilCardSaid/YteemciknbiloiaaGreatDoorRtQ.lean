/- Walks over layer 24: Key of the law's tree. -/
import Derived.Test.YteemciknbiloiaaGreatDoorRtP
import Derived.Test.YteemciknbiloiaaGreatDoorRtD
namespace Go.Proofs.YteemciknbiloiaaGreatDoor.Ih
open Go.RowKit

attribute [local go_sem] run_store_one

theorem small_2 (w : World) : Calls Tryz.prog 54 #[.int .i64 2] w (fun e w' => e = .returned (.string ⟨#[50]⟩) ∧ w' = w) := by
  go_enter Tryz.func54, Tryz.ntmps54
  go_wp2_with fail
  go_ret
  exact ⟨by rfl, rfl⟩

theorem format_2 (w : World) : Calls Tryz.prog 42 #[.int .i64 2, .int .i64 10] w (fun e w' => e = .returned (.string ⟨#[50]⟩) ∧ w' = w) := by
  go_enter Tryz.func42, Tryz.ntmps42
  go_wp2_with fail
  refine (small_2 w).mono ?_
  rintro e w1 ⟨rfl, rfl⟩
  go_wp2_with fail
  go_ret
  exact ⟨rfl, rfl⟩

theorem iitoa_2 (w : World) : Calls Tryz.prog 30 #[.int .i64 2] w (fun e w' => e = .returned (.string ⟨#[50]⟩) ∧ w' = w) := by
  go_enter Tryz.func30, Tryz.ntmps30
  go_wp2_with fail
  refine (format_2 w).mono ?_
  rintro e w1 ⟨rfl, rfl⟩
  go_wp2_with fail
  go_ret
  exact ⟨rfl, rfl⟩

theorem itoa_2 (w : World) : Calls Tryz.prog 14 #[.int .i64 2] w (fun e w' => e = .returned (.string ⟨#[50]⟩) ∧ w' = w) := by
  go_enter Tryz.func14, Tryz.ntmps14
  go_wp2_with fail
  refine (iitoa_2 w).mono ?_
  rintro e w1 ⟨rfl, rfl⟩
  go_wp2_with fail
  go_ret
  exact ⟨rfl, rfl⟩

/-- A route stored over another. -/
theorem rt_put {X : World} {b : Nat} {p0 : Int} {rc0 : ByteArray} {mv0 bv0 : Value} {wt0 iv0 rp0 : Int} {ct0 : Bool} (hr : RtAt X b p0 rc0 mv0 bv0 wt0 iv0 rp0 ct0) (p : Int) (rc : ByteArray) (mv bv : Value) (wt iv rp : Int) (ct : Bool) {V : World} (hV : V = (((((((((X.setCell ⟨b, 0, none⟩ (.int .i64 p)).setCell ⟨b, 1, none⟩ (.string rc)).setCell ⟨b, 2, none⟩ mv).setCell ⟨b, 3, none⟩ bv).setCell ⟨b, 4, none⟩ (.bool false)).setCell ⟨b, 5, none⟩ (.int .i64 wt)).setCell ⟨b, 6, none⟩ (.int .i64 iv)).setCell ⟨b, 7, none⟩ (.int .i64 rp)).setCell ⟨b, 8, none⟩ (.bool ct))) :
    RtAt V b p rc mv bv wt iv rp ct ∧ (∀ k, k ≠ b → V.heap[k]? = X.heap[k]?) ∧ V.heap.size = X.heap.size ∧ ∀ B a, Below B a X → B ≤ b → Below B a V := by
  subst hV
  have h0 : ∀ {X : World} {k : Nat} {u x : Value}, X.cell? ⟨b, k, none⟩ = some u → (X.setCell ⟨b, k, none⟩ x).cell? ⟨b, k, none⟩ = some x := fun h => World.cell?_setCell_same _ _ _ h
  have hn : ∀ {X : World} {k j : Nat} {u x : Value}, X.cell? ⟨b, k, none⟩ = some u → j ≠ k → (X.setCell ⟨b, j, none⟩ x).cell? ⟨b, k, none⟩ = some u := fun h q => otherR h q
  have hs9 : ∀ (X : World) (k : Nat) (v : Value) (q : Nat), q ≠ b → (X.setCell ⟨b, k, none⟩ v).heap[q]? = X.heap[q]? := fun X k v q hq => Below.heap_setCell _ _ _ _ hq
  refine ⟨⟨by have q := hr.lt; simp only [setCell_size]; exact q, ?_, ?_, ?_, ?_, ?_, ?_, ?_, ?_, ?_, fun k => by simp only [World.frozen?_setCell]; exact hr.fz k⟩, fun k hk => by simp only [hs9 _ _ _ k hk], by simp only [setCell_size], fun B a hb hB => ?_⟩
  · exact (hn (hn (hn (hn (hn (hn (hn (hn (h0 hr.c0) (by decide)) (by decide)) (by decide)) (by decide)) (by decide)) (by decide)) (by decide)) (by decide))
  · exact (hn (hn (hn (hn (hn (hn (hn (h0 (hn hr.c1 (by decide))) (by decide)) (by decide)) (by decide)) (by decide)) (by decide)) (by decide)) (by decide))
  · exact (hn (hn (hn (hn (hn (hn (h0 (hn (hn hr.c2 (by decide)) (by decide))) (by decide)) (by decide)) (by decide)) (by decide)) (by decide)) (by decide))
  · exact (hn (hn (hn (hn (hn (h0 (hn (hn (hn hr.c3 (by decide)) (by decide)) (by decide))) (by decide)) (by decide)) (by decide)) (by decide)) (by decide))
  · exact (hn (hn (hn (hn (h0 (hn (hn (hn (hn hr.c4 (by decide)) (by decide)) (by decide)) (by decide))) (by decide)) (by decide)) (by decide)) (by decide))
  · exact (hn (hn (hn (h0 (hn (hn (hn (hn (hn hr.c5 (by decide)) (by decide)) (by decide)) (by decide)) (by decide))) (by decide)) (by decide)) (by decide))
  · exact (hn (hn (h0 (hn (hn (hn (hn (hn (hn hr.c6 (by decide)) (by decide)) (by decide)) (by decide)) (by decide)) (by decide))) (by decide)) (by decide))
  · exact (hn (h0 (hn (hn (hn (hn (hn (hn (hn hr.c7 (by decide)) (by decide)) (by decide)) (by decide)) (by decide)) (by decide)) (by decide))) (by decide))
  · exact (h0 (hn (hn (hn (hn (hn (hn (hn (hn hr.c8 (by decide)) (by decide)) (by decide)) (by decide)) (by decide)) (by decide)) (by decide)) (by decide)))
  · iterate 9 (refine Below.setCell ?_ hB _)
    exact hb

set_option maxRecDepth 100000 in
set_option maxHeartbeats 1000000 in
/-- Route 2 of the law's tree: a copy. -/
theorem troute_tree (w : World) (tb kb lo : Nat) (lv sv kv : Value) (c0 c1 c2 : Rec) (h : TrAt w tb kb lo 3 lv sv kv [(rs0, c0), (rs1, c1), (rs2, c2)] [(rs0, c0), (rs1, c1), (rs2, c2)] 2) :
    Calls Tryz.prog 6 #[.pointer (some ⟨tb, 0, none⟩), .int .i64 2] w (fun e w' => ∃ mv bv, e = .returned (.tuple #[rs2.v mv bv, .int .i64 0]) ∧ ClS w.heap.size w' bv rs2.ns ∧ mv.oneCell' = true ∧ Below w.heap.size w w') := by
  obtain ⟨gl, gs, gk, cl, cs, ck, rfl, hgl, _, _⟩ := tree_t3 h
  have hr := (h.off (rs2, c2) (by simp)).now.1
  obtain ⟨hm, hs, _⟩ := hr
  have t0 := h.t0
  have hgs := h.ltt
  have hglt : gl < w.heap.size := (h.ol.lt gl rfl).2
  obtain ⟨mv, hmv⟩ : ∃ mv, c2.mv = mv := ⟨_, rfl⟩
  obtain ⟨bv, hbv⟩ : ∃ bv, c2.bv = bv := ⟨_, rfl⟩
  rw [show (rs2, c2).2.mv = mv from hmv] at hm
  rw [show (rs2, c2).2.bv = bv from hbv] at hs
  have g0 : w.cell? ⟨gl, 18, none⟩ = some (.int .i64 0) := (hgl 18 (by decide)).trans (rfl)
  have g1 : w.cell? ⟨gl, 19, none⟩ = some (.string ⟨#[119, 101, 98]⟩) := (hgl 19 (by decide)).trans (rfl)
  have g2 : w.cell? ⟨gl, 20, none⟩ = some (mv) := (hgl 20 (by decide)).trans (congrArg some hmv)
  have g3 : w.cell? ⟨gl, 21, none⟩ = some (bv) := (hgl 21 (by decide)).trans (congrArg some hbv)
  have g4 : w.cell? ⟨gl, 22, none⟩ = some (.bool false) := (hgl 22 (by decide)).trans (rfl)
  have g5 : w.cell? ⟨gl, 23, none⟩ = some (.int .i64 0) := (hgl 23 (by decide)).trans (rfl)
  have g6 : w.cell? ⟨gl, 24, none⟩ = some (.int .i64 1) := (hgl 24 (by decide)).trans (rfl)
  have g7 : w.cell? ⟨gl, 25, none⟩ = some (.int .i64 1) := (hgl 25 (by decide)).trans (rfl)
  have g8 : w.cell? ⟨gl, 26, none⟩ = some (.bool false) := (hgl 26 (by decide)).trans (rfl)
  obtain ⟨a1, n1, k1, rfl⟩ := hm.shape
  obtain ⟨a2, n2, k2, rfl⟩ := hs.shape
  have HM := Lib.hid hm
  have HS := Lib.hid hs
  clear h hgl hm hs hmv hbv
  have hW : Hid (∀ W, W = w.alloc (.cells #[.int .i64 0, .string ⟨#[]⟩, .slice none 0 0, .slice none 0 0, .bool false, .int .i64 0, .int .i64 0, .int .i64 0, .bool false] 33) → Below w.heap.size w W ∧ W.heap.size = w.heap.size + 1 ∧ RtAt W w.heap.size 0 ⟨#[]⟩ (.slice none 0 0) (.slice none 0 0) 0 0 0 false) := by
    rintro W rfl
    exact ⟨(Below.refl _ _).alloc (Nat.le_refl _) _, by simp, ⟨by simp, by simp, by simp, by simp, by simp, by simp, by simp, by simp, by simp, by simp, fun k => by simp⟩⟩
  go_enter Tryz.func6, Tryz.ntmps6
  go_wp2_with fail
  generalize hWe : w.alloc (.cells #[.int .i64 0, .string ⟨#[]⟩, .slice none 0 0, .slice none 0 0, .bool false, .int .i64 0, .int .i64 0, .int .i64 0, .bool false] 33) = W
  obtain ⟨hbW, hsz, hrW⟩ := hW.out W hWe.symm
  have HBW := Lib.hid hbW
  have HRW := Lib.hid hrW
  have HMW := Lib.hid (HM.out.below hbW)
  have HSW := Lib.hid (HS.out.below hbW)
  clear hW hWe hbW hrW HM HS t0 g0 g1 g2 g3 g4 g5 g6 g7 g8
  refine (copied_cl W 0 0 ⟨#[119, 101, 98]⟩ (.slice a1 n1 k1) (.slice a2 n2 k2) 0 1 1 false [⟨1, nJob, bA⟩] [nJob] HMW.out HSW.out (by decide) (by decide)).mono ?_
  rintro e w1 ⟨mv, bv, rfl, hcm, hcs, hb1⟩
  obtain ⟨b1, p1, q1, rfl⟩ := hcm.shape
  obtain ⟨b2, p2, q2, rfl⟩ := hcs.shape
  have hr1 := HRW.out.like (hb1.block _ HRW.out.lt) hb1.size
  have hz1 := hb1.size
  have HB1 := Lib.hid (HBW.out.trans (hb1.mono (by omega)))
  have HCS := Lib.hid hcs
  have HR1 := Lib.hid hr1
  obtain ⟨_, y0, y1, y2, y3, y4, y5, y6, y7, y8, yf⟩ := hr1
  have HV : Hid (∀ V, V = (((((((((w1.setCell ⟨w.heap.size, 0, none⟩ (.int .i64 0)).setCell ⟨w.heap.size, 1, none⟩ (.string ⟨#[119, 101, 98]⟩)).setCell ⟨w.heap.size, 2, none⟩ (.slice b1 p1 q1)).setCell ⟨w.heap.size, 3, none⟩ (.slice b2 p2 q2)).setCell ⟨w.heap.size, 4, none⟩ (.bool false)).setCell ⟨w.heap.size, 5, none⟩ (.int .i64 0)).setCell ⟨w.heap.size, 6, none⟩ (.int .i64 1)).setCell ⟨w.heap.size, 7, none⟩ (.int .i64 1)).setCell ⟨w.heap.size, 8, none⟩ (.bool false)) → RtAt V w.heap.size 0 ⟨#[119, 101, 98]⟩ (.slice b1 p1 q1) (.slice b2 p2 q2) 0 1 1 false ∧ ClS w.heap.size V (.slice b2 p2 q2) [nJob] ∧ Below w.heap.size w V) := by
    intro V hV
    obtain ⟨v1, v2, v3, v4⟩ := rt_put HR1.out _ _ _ _ _ _ _ _ hV
    exact ⟨v1, (HCS.out.up (Nat.le_of_eq v3.symm) (fun k h1 _ => v2 k (by omega))).mono (by omega), v4 _ _ HB1.out (Nat.le_refl _)⟩
  clear hcm hcs hb1 HBW HRW HMW HSW
  go_wp2_with fail
  generalize hVe : (((((((((w1.setCell ⟨w.heap.size, 0, none⟩ (.int .i64 0)).setCell ⟨w.heap.size, 1, none⟩ (.string ⟨#[119, 101, 98]⟩)).setCell ⟨w.heap.size, 2, none⟩ (.slice b1 p1 q1)).setCell ⟨w.heap.size, 3, none⟩ (.slice b2 p2 q2)).setCell ⟨w.heap.size, 4, none⟩ (.bool false)).setCell ⟨w.heap.size, 5, none⟩ (.int .i64 0)).setCell ⟨w.heap.size, 6, none⟩ (.int .i64 1)).setCell ⟨w.heap.size, 7, none⟩ (.int .i64 1)).setCell ⟨w.heap.size, 8, none⟩ (.bool false)) = V
  obtain ⟨hv, hvs, hvb⟩ := HV.out V hVe.symm
  clear HV hVe
  obtain ⟨_, v0, v1, v2, v3, v4, v5, v6, v7, v8, _⟩ := hv
  refine bodyPost_ret (v := .tuple #[rs2.v (.slice b1 p1 q1) (.slice b2 p2 q2), .int .i64 0]) ?_ rfl ?_
  · rw [results_cell_two _ 4 5 33 rfl]
    go_simp
  · exact ⟨_, _, rfl, hvs, rfl, hvb⟩

theorem LabAt.of_row {w : World} {base : Nat} {v : Value} (h : w.ownsRow base 56 2 v 1 (flatL [(nJob, bA)])) : ∃ g c, v = .slice (some ⟨g, 0, none⟩) 1 c ∧ g < w.heap.size ∧ LabAt w g 0 [(nJob, bA)] := by
  obtain ⟨g, c, rfl, hg⟩ := row_at h (by simp [flatL])
  refine ⟨g, c, rfl, (h.lt g rfl).2, fun i x hx => ?_⟩
  rcases i with _ | i
  · cases hx
    exact ⟨hg 0 (by decide), hg 1 (by decide)⟩
  · simp at hx

theorem picked_a : picked nJob lsA = [(nJob, bA)] := by
  unfold picked
  decide

set_option maxRecDepth 100000 in
set_option maxHeartbeats 1000000 in
theorem tkey_tree (w : World) (tb kb lo lb lc : Nat) (lv sv kv : Value) (c0 c1 c2 : Rec) (hT : Lib.Utf8Tabs 0 1 w) (h : TrAt w tb kb lo 3 lv sv kv [(rs0, c0), (rs1, c1), (rs2, c2)] [(rs0, c0), (rs1, c1), (rs2, c2)] 2) (hs : LabAt w lb 0 lsA) (hslt : lb < w.heap.size) :
    Calls Tryz.prog 5 #[.pointer (some ⟨tb, 0, none⟩), .int .i64 2, .slice (some ⟨lb, 0, none⟩) 2 lc] w (fun e w' => e = .returned (.tuple #[.string ⟨#[50, 47, 123, 106, 111, 98, 61, 34, 97, 34, 125]⟩, .int .i64 0]) ∧ Below w.heap.size w w') := by
  have HC := Lib.hid (troute_tree w tb kb lo lv sv kv c0 c1 c2 h)
  have HT := Lib.hid hT
  have HS := Lib.hid hs
  clear hT h hs
  go_enter Tryz.func5, Tryz.ntmps5
  go_wp2_with fail
  refine HC.out.mono ?_
  rintro e w1 ⟨mv, bv, rfl, hcs, hm1, hb1⟩
  obtain ⟨nb, nc, rfl, hnl, hn0⟩ : ∃ nb nc, bv = .slice (some ⟨nb, 0, none⟩) 1 nc ∧ nb < w1.heap.size ∧ w1.cell? ⟨nb, 0, none⟩ = some (.string nJob) := by
    rcases hcs with ⟨h, _⟩ | ⟨g, c, hv, _, _, _, hg, hc⟩
    · simp at h
    · exact ⟨g, c, hv, hg, hc 0 (by simp)⟩
  have HN := Lib.hid hn0
  have HB1 := Lib.hid hb1
  have hz1 := hb1.size
  have hW : Hid (∀ X, X = w1.alloc (.cells #[.int .i64 0, .string ⟨#[119, 101, 98]⟩, mv, .slice (some ⟨nb, 0, none⟩) 1 nc, .bool false, .int .i64 0, .int .i64 1, .int .i64 1, .bool false] 33) → Below w1.heap.size w1 X ∧ RtAt X w1.heap.size 0 ⟨#[119, 101, 98]⟩ mv (.slice (some ⟨nb, 0, none⟩) 1 nc) 0 1 1 false) := by
    rintro X rfl
    exact ⟨(Below.refl _ _).alloc (Nat.le_refl _) _, ⟨by simp, by simp, by simp, by simp, by simp, by simp, by simp, by simp, by simp, by simp, fun k => by simp⟩⟩
  clear HC hcs hb1 hn0
  go_wp2_with fail
  generalize hXe : w1.alloc (.cells #[.int .i64 0, .string ⟨#[119, 101, 98]⟩, mv, .slice (some ⟨nb, 0, none⟩) 1 nc, .bool false, .int .i64 0, .int .i64 1, .int .i64 1, .bool false] 33) = X
  obtain ⟨hbX, hrX⟩ := hW.out X hXe.symm
  have HBX := Lib.hid (HB1.out.trans (hbX.mono hz1))
  have HRX := Lib.hid hrX
  have HNX := Lib.hid ((hbX.cell (p := ⟨nb, 0, none⟩) hnl).trans HN.out)
  have hzX := hbX.size
  clear hW hXe hbX hrX HN
  refine (right_ok X lb 0 lc lsA (Utf8Tabs_below HT.out HBX.out) (HS.out.below HBX.out hslt) (by omega) (by decide) lsA_ok.1 lsA_ok.2).mono ?_
  rintro e w3 ⟨rfl, hb3⟩
  have hz3 := hb3.size
  have HB3 := Lib.hid (HBX.out.trans (hb3.mono (by omega)))
  have HN3 := Lib.hid ((hb3.cell (p := ⟨nb, 0, none⟩) (by show nb < X.heap.size; omega)).trans HNX.out)
  obtain ⟨_, y0, y1, y2, y3, y4, y5, y6, y7, y8, yf⟩ := HRX.out.like (hb3.block _ HRX.out.lt) hb3.size
  clear hb3
  go_wp2_with fail
  refine (keep_ok w3 lb 0 lc nb 0 nc lsA nJob (Utf8Tabs_below HT.out HB3.out) (HS.out.below HB3.out hslt) (by omega) (by decide) lsA_ok HN3.out (by omega)).mono ?_
  rintro e w4 ⟨v, rfl, hb4, hown⟩
  rw [picked_a] at hown
  obtain ⟨g, c, rfl, hg, hla⟩ := LabAt.of_row hown
  have hz4 := hb4.size
  have HB4 := Lib.hid (HB3.out.trans (hb4.mono (by omega)))
  have HLA := Lib.hid hla
  clear hb4 hown hla y0 y1 y2 y3 y4 y5 y6 y7 y8 yf
  go_wp2_with fail
  refine (print_a w4 g 0 c (Utf8Tabs_below HT.out HB4.out) HLA.out hg ⟨fun x hx => lsA_ok.1 x (by rw [List.mem_singleton.1 hx]; simp), fun i x y h1 h2 => by simp at h2⟩).mono ?_
  rintro e w5 ⟨rfl, hb5⟩
  have HB5 := Lib.hid (HB4.out.trans (hb5.mono (by omega)))
  clear hb5
  go_wp2_with fail
  refine (itoa_2 w5).mono ?_
  rintro e w6 ⟨rfl, rfl⟩
  go_wp2_with fail
  go_ret2
  exact ⟨by rfl, HB5.out⟩

/-- Key of the law's tree: the third route's. -/
theorem key_tree (w : World) (b c B lb lc : Nat) (hT : Lib.Utf8Tabs 0 1 w) (h2 : 2 ≤ w.heap.size) (hl : RtsAt w b 0 B treeRs) (hlt : b < w.heap.size) (hs : LabAt w lb 0 lsA) (hslt : lb < w.heap.size) :
    Calls Tryz.prog 20 #[.slice (some ⟨b, 0, none⟩) 3 c, .int .i64 2, .slice (some ⟨lb, 0, none⟩) 2 lc] w (fun e w' => e = .returned (.tuple #[.string ⟨#[50, 47, 123, 106, 111, 98, 61, 34, 97, 34, 125]⟩, .int .i64 0]) ∧ Below w.heap.size w w') := by
  have HN := Lib.hid (new_ok w b 0 c B treeRs hT h2 hl hlt (by decide) (by decide) tree_rs_ok)
  have HS := Lib.hid hs
  have HT := Lib.hid hT
  clear hT hl hs
  go_enter Tryz.func20, Tryz.ntmps20
  go_wp2_with fail
  refine HN.out.mono ?_
  rintro e w1 ⟨tb, kb, lv, sv, kv, cs, rfl, hb1, hcs, htb, htr⟩
  obtain ⟨c0, c1, c2, rfl⟩ : ∃ c0 c1 c2, cs = [c0, c1, c2] := by
    match cs, hcs with
    | [c0, c1, c2], _ => exact ⟨c0, c1, c2, rfl⟩
  have HB1 := Lib.hid hb1
  have HTR := Lib.hid htr
  have hz1 := hb1.size
  have HL1 := Lib.hid (HS.out.below hb1 hslt)
  clear HN hb1 htr hcs
  go_wp2_with fail
  refine (tkey_tree w1 tb kb w.heap.size lb lc lv sv kv c0 c1 c2 (Utf8Tabs_below HT.out HB1.out) HTR.out HL1.out (by omega)).mono ?_
  rintro e w2 ⟨rfl, hb2⟩
  have HB2 := Lib.hid (HB1.out.trans (hb2.mono hz1))
  clear hb2
  go_wp2_with fail
  go_ret2
  exact ⟨rfl, HB2.out⟩

end Go.Proofs.YteemciknbiloiaaGreatDoor.Ih
