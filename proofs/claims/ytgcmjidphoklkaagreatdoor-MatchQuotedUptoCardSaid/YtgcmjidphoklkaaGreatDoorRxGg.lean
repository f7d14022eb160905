/- Walk over layer 5's add: one of two. -/
import Derived.Test.YtgcmjidphoklkaaGreatDoorRxGf
import Derived.Deep.RegionHeld3
namespace Go.Proofs.YtgcmjidphoklkaaGreatDoor.Rx
open Go.RowKit Go.Sort
variable {lw : Nat}

attribute [local go_sem] run_store_one

set_option maxRecDepth 8000 in
theorem add_fork (a b : Re) (iha : AddSaid a) (ihb : AddSaid b) (hc0 : ¬ Re.cnt (.fork a b) = 0) : AddSaid (.fork a b) := by
  intro lw w rb v ns N c K C next hp hK hG hN hrb hlen
  obtain ⟨hb, hc⟩ := box9 (w := w) (c := c)
  have h1 : c.kind = 2 := hp.1
  have h9 : c.n = Re.cnt (.fork a b) := hp.n_is
  have hkids : Kids w (PVL Re.cnt w [a, b]) c.kids K C := hp.2.2.2.2.2.2.2.2
  have HP := Lib.hid hp
  clear hp
  obtain ⟨kb, cap, ca, Ka, Ca, hv, hkbK, hfk, hKa, hCa, hca, hpa⟩ := hkids.get (j := 0) (q := a) rfl
  obtain ⟨kb', cap', cb2, Kb, Cb, hv', _, _, hKb, hCb, hcb, hpb⟩ := hkids.get (j := 1) (q := b) rfl
  have hkk : kb' = kb := by rw [hv] at hv'; injection hv' with e _ _; injection e with e; injection e with e; exact e.symm
  subst hkk
  have hadd : Re.add (.fork a b) next N = ((Re.add b next (Re.add a next N).2).2.length, (Re.add b next (Re.add a next N).2).2 ++ [.ways (Re.add a next N).1 (Re.add b next (Re.add a next N).2).1]) := by simp [Re.add, hc0]
  rw [hadd] at hlen ⊢
  obtain ⟨ck, ci, cp, cr, cd, cl, cm, cb, cn⟩ := c
  simp only at h1 h9 hv hkids
  replace hv : cd = .slice (some ⟨kb', 0, none⟩) 2 cap := hv
  subst h1 h9 hv
  have hne : ((Re.cnt (.fork a b)) == 0) = false := by simpa using hc0
  generalize Re.cnt (.fork a b) = cnt at *
  have hsz := hb.size
  have HG0 := Lib.hid (hG.below hb hrb)
  have HM0 := Lib.hid (hG.below hb hrb).refl
  have HOW : Hid (v.ownBlock ≠ some w.heap.size) := fun e => by have := (hG.own.lt _ e).2; omega
  have HN0 := Lib.hid (hN.like (fun k _ hk => hb.block k (by omega)) hb.size)
  have HK := Lib.hid hK
  have HB := Lib.hid hb
  have HC := Lib.hid hc
  obtain ⟨c0, c1, c2, c3, c4, c5, c6, c7, c8⟩ := hc
  simp only [Nat.zero_add] at c0 c1 c2 c3 c4 c5 c6 c7 c8
  clear hG hN hkids hK hb hadd hc0 hv'
  have hda := hca.like (HB.out.block kb' (by have := HK.out kb' (List.mem_append_left _ hkbK); omega))
  have hdb := hcb.like (HB.out.block kb' (by have := HK.out kb' (List.mem_append_left _ hkbK); omega))
  obtain ⟨x0, x1, x2, x3, x4, x5, x6, x7, x8⟩ := hda
  obtain ⟨y0, y1, y2, y3, y4, y5, y6, y7, y8⟩ := hdb
  simp only [Nat.zero_mul, Nat.one_mul, Nat.zero_add, Nat.reduceAdd] at x0 x1 x2 x3 x4 x5 x6 x7 x8 y0 y1 y2 y3 y4 y5 y6 y7 y8
  clear hca hcb
  go_enter Tryz.func44, Tryz.ntmps44
  go_wp2_with fail
  have HA := Lib.hid iha
  have HBB := Lib.hid ihb
  have HLEN := Lib.hid hlen
  have HPA := Lib.hid hpa
  have HPB := Lib.hid hpb
  have HKA : Hid (∀ k, k ∈ Ka ++ Ca → lw ≤ k ∧ k + 1 < rb) := fun x hx => HK.out x ((List.mem_append.1 hx).elim (fun h => List.mem_append_left _ (hKa x h)) (fun h => List.mem_append_right _ (hCa x h)))
  have HKB : Hid (∀ k, k ∈ Kb ++ Cb → lw ≤ k ∧ k + 1 < rb) := fun x hx => HK.out x ((List.mem_append.1 hx).elim (fun h => List.mem_append_left _ (hKb x h)) (fun h => List.mem_append_right _ (hCb x h)))
  have hkbr : kb' + 1 < rb := (HK.out kb' (List.mem_append_left _ hkbK)).2
  clear iha ihb hlen hpa hpb hKa hCa hKb hCb hfk
  generalize hW0 : w.alloc (.cells #[.int .i64 2, ci, .bool cp, .int .i32 cr, .slice (some ⟨kb', 0, none⟩) 2 cap, .int .i64 cl, .int .i64 cm, .bool cb, .int .i64 cnt] 92) = W0 at *
  have hsW : W0.heap.size = w.heap.size + 1 := by rw [← hW0]; simp
  have HKEEP : Hid (∀ (v' : Value) (w' : World), GMoved rb v v' W0.drew w' → w'.heap[w.heap.size]? = W0.heap[w.heap.size]? ∧ w'.heap[kb']? = W0.heap[kb']?) :=
    fun v' w' hm => ⟨hm.keep w.heap.size (by show _ < W0.heap.size; omega) (by omega) HOW.out, hm.block hkbr⟩
  have hC9 : Cells9 W0 w.heap.size 0 ⟨2, ci, cp, cr, .slice (some ⟨kb', 0, none⟩) 2 cap, cl, cm, cb, cnt⟩ := HC.out
  have hA9 : Cells9 W0 kb' 0 ca := ⟨x0, x1, x2, x3, x4, x5, x6, x7, x8⟩
  have hB9 : Cells9 W0 kb' 9 cb2 := ⟨y0, y1, y2, y3, y4, y5, y6, y7, y8⟩
  have HGW : Hid (Gr rb v ns W0.drew) := ⟨HG0.out.cell, HG0.out.free, HG0.out.own.drew, HG0.out.ne⟩
  have hnw : NRep lw W0 (rb - 1) ns N → NRep lw W0.drew (rb - 1) ns N := fun h => @NRep.like lw W0 W0.drew (rb - 1) (fun _ _ _ => rfl) (Nat.le_refl _) ns N h
  have HNW : Hid (NRep lw W0.drew (rb - 1) ns N) := hnw HN0.out
  have hL : Like (Ka ++ Ca) w W0.drew := ⟨fun x hx => HB.out.block x (by have := HKA.out x hx; omega), HB.out.size⟩
  have hL2 : Like (Kb ++ Cb) w W0.drew := ⟨fun x hx => HB.out.block x (by have := HKB.out x hx; omega), HB.out.size⟩
  have HPAW := Lib.hid (HPA.out.like hL)
  have HPBW := Lib.hid (HPB.out.like hL2)
  have hrbW : rb < W0.drew.heap.size := by show rb < W0.heap.size; omega
  have hl1 : (Re.add b next (Re.add a next N).2).2.length + 1 ≤ 1000000 := by simpa using HLEN.out
  have hl2 : (Re.add a next N).2.length ≤ 1000000 := by have := add_len b next (Re.add a next N).2; omega
  have HL1 := Lib.hid hl1
  have HL2 := Lib.hid hl2
  obtain ⟨S, hSe⟩ : ∃ S : World → Prop, ∀ x, S x ↔ (Cells9 x w.heap.size 0 ⟨2, ci, cp, cr, .slice (some ⟨kb', 0, none⟩) 2 cap, cl, cm, cb, cnt⟩ ∧ Cells9 x kb' 0 ca ∧ Cells9 x kb' 9 cb2) := ⟨_, fun _ => Iff.rfl⟩
  have hS1 : ∀ x, S x → Cells9 x w.heap.size 0 ⟨2, ci, cp, cr, .slice (some ⟨kb', 0, none⟩) 2 cap, cl, cm, cb, cnt⟩ := fun x hx => ((hSe x).1 hx).1
  have hS2 : ∀ x, S x → Cells9 x kb' 0 ca := fun x hx => ((hSe x).1 hx).2.1
  have hS3 : ∀ x, S x → Cells9 x kb' 9 cb2 := fun x hx => ((hSe x).1 hx).2.2
  have HSK : Hid (∀ (v' : Value) (w' : World), GMoved rb v v' W0.drew w' → S w') := fun v' w' hm => (hSe w').2 ⟨hC9.like (HKEEP.out v' w' hm).1, hA9.like (HKEEP.out v' w' hm).2, hB9.like (HKEEP.out v' w' hm).2⟩
  have hheld0 : S W0.drew := HSK.out v _ HGW.out.refl
  clear hnw hSe hC9 hA9 hB9 HKEEP hL hL2 hl1 hl2 c0 c1 c2 c3 c4 c5 c6 c7 c8 x0 x1 x2 x3 x4 x5 x6 x7 x8 y0 y1 y2 y3 y4 y5 y6 y7 y8
  refine wp_region_held_drew (S := S) (by kernel_rfl) hheld0 (fun hheld => ?_)
  clear hheld0
  refine wpAnyH_take (i := 0) (v := .pointer (some ⟨rb, 0, none⟩)) rfl (by kernel_rfl) (by kernel_rfl) (by kernel_rfl) (fun _ _ _ h => h) (Or.inl ⟨by rfl, by intro x hx; go_simp⟩) hheld ?_
  refine wpAnyH_take (i := 1) (v := .pointer (some ⟨rb, 0, none⟩)) rfl (by kernel_rfl) (by kernel_rfl) (by kernel_rfl) (fun _ _ _ h => h) (Or.inl ⟨by rfl, by intro x hx; go_simp⟩) hheld ?_
  refine wpAnyH_take (i := 2) (v := .pointer (some ⟨w.heap.size, 4, none⟩)) rfl (by kernel_rfl) (by kernel_rfl) (by kernel_rfl) (fun _ _ _ h => h) (Or.inl ⟨by rfl, by intro x hx; go_simp⟩) hheld ?_
  refine wpAnyH_take (i := 3) (v := .slice (some ⟨kb', 0, none⟩) 2 cap) rfl (by kernel_rfl) (by kernel_rfl) (by kernel_rfl) (fun _ _ _ h => h) (Or.inl ⟨by rfl, by intro x hx; obtain ⟨x0, x1, x2, x3, x4, x5, x6, x7, x8⟩ := hS1 x hx; simp only [Nat.zero_add] at x0 x1 x2 x3 x4 x5 x6 x7 x8; go_simp⟩) hheld ?_
  refine wpAnyH_take (i := 4) (v := .pointer (some ⟨kb', 0, none⟩)) rfl (by kernel_rfl) (by kernel_rfl) (by kernel_rfl) (fun _ _ _ h => h) (Or.inl ⟨by rfl, by intro x hx; go_simp⟩) hheld ?_
  refine wpAnyH_take (i := 5) (v := ca.agg) rfl (by kernel_rfl) (by kernel_rfl) (by kernel_rfl) (fun _ _ _ h => h) (Or.inl ⟨by rfl, by intro x hx; obtain ⟨x0, x1, x2, x3, x4, x5, x6, x7, x8⟩ := hS2 x hx; simp only [Nat.zero_add] at x0 x1 x2 x3 x4 x5 x6 x7 x8; go_simp⟩) hheld ?_
  refine wpAnyH_take (i := 6) (v := .int .i64 next) rfl (by kernel_rfl) (by kernel_rfl) (by kernel_rfl) (fun _ _ _ h => h) (Or.inl ⟨by rfl, by intro x hx; go_simp⟩) hheld ?_
  refine wpAnyH_take (i := 8) (v := .pointer (some ⟨rb, 0, none⟩)) rfl (by kernel_rfl) (by kernel_rfl) (by kernel_rfl) (fun _ _ _ h => h) (Or.inl ⟨by rfl, by intro x hx; go_simp⟩) hheld ?_
  refine wpAnyH_take (i := 9) (v := .pointer (some ⟨w.heap.size, 4, none⟩)) rfl (by kernel_rfl) (by kernel_rfl) (by kernel_rfl) (fun _ _ _ h => h) (Or.inl ⟨by rfl, by intro x hx; go_simp⟩) hheld ?_
  refine wpAnyH_take (i := 10) (v := .slice (some ⟨kb', 0, none⟩) 2 cap) rfl (by kernel_rfl) (by kernel_rfl) (by kernel_rfl) (fun _ _ _ h => h) (Or.inl ⟨by rfl, by intro x hx; obtain ⟨x0, x1, x2, x3, x4, x5, x6, x7, x8⟩ := hS1 x hx; simp only [Nat.zero_add] at x0 x1 x2 x3 x4 x5 x6 x7 x8; go_simp⟩) hheld ?_
  refine wpAnyH_take (i := 11) (v := .pointer (some ⟨kb', 9, none⟩)) rfl (by kernel_rfl) (by kernel_rfl) (by kernel_rfl) (fun _ _ _ h => h) (Or.inl ⟨by rfl, by intro x hx; go_simp⟩) hheld ?_
  refine wpAnyH_take (i := 12) (v := cb2.agg) rfl (by kernel_rfl) (by kernel_rfl) (by kernel_rfl) (fun _ _ _ h => h) (Or.inl ⟨by rfl, by intro x hx; obtain ⟨x0, x1, x2, x3, x4, x5, x6, x7, x8⟩ := hS3 x hx; simp only [Nat.reduceAdd] at x0 x1 x2 x3 x4 x5 x6 x7 x8; go_simp⟩) hheld ?_
  refine wpAnyH_take (i := 13) (v := .int .i64 next) rfl (by kernel_rfl) (by kernel_rfl) (by kernel_rfl) (fun _ _ _ h => h) (Or.inl ⟨by rfl, by intro x hx; go_simp⟩) hheld ?_
  refine wpAnyH_ready (rs := [7]) (by kernel_rfl) (by simp) ?_
  refine AllReadyH.cons rfl (fun Kk hKk => ?_) AllReadyH.nil
  go_simp
  refine (HA.out lw _ rb v ns N ca Ka Ca next HPAW.out HKA.out HGW.out HNW.out hrbW HL2.out).mono ?_
  rintro e w1 ⟨rfl, v1, ns1, hG1, hN1, hM1⟩
  refine hKk.out _ _ (HSK.out _ _ hM1) (fun hheld => ?_)
  clear hKk Kk
  refine wpAnyH_ready (rs := [14]) (by kernel_rfl) (by simp) ?_
  refine AllReadyH.cons rfl (fun Kk hKk => ?_) AllReadyH.nil

  go_simp
  refine (HBB.out lw _ rb v1 ns1 _ cb2 Kb Cb next (HPBW.out.gmoved HKB.out hM1) HKB.out hG1 hN1 (Nat.lt_of_lt_of_le hrbW hM1.size) (Nat.le_of_succ_le HL1.out)).mono ?_
  rintro e w2 ⟨rfl, v2, ns2, hG2, hN2, hM2⟩
  refine hKk.out _ _ (HSK.out _ _ (hM1.trans hM2)) (fun hheld => ?_)
  clear hKk Kk
  refine wpAnyH_ready (rs := [15]) (by kernel_rfl) (by simp) ?_
  refine AllReadyH.cons rfl (fun Kk hKk => ?_) AllReadyH.nil
  go_simp
  refine hKk.out _ _ hheld (fun hheld => ?_)
  clear hKk Kk
  refine wpAnyH_ready (rs := [16]) (by kernel_rfl) (by simp) ?_
  refine AllReadyH.cons rfl (fun Kk hKk => ?_) AllReadyH.nil
  go_simp
  refine (put_any _ rb v2 ns2 ⟨.nilFunc, (Re.add a next N).1, (Re.add b next (Re.add a next N).2).1⟩ hG2 rfl (by rw [hN2.length]; exact Nat.le_of_succ_le HL1.out) (Nat.lt_of_lt_of_le hrbW (Nat.le_trans hM1.size hM2.size))).mono ?_
  rintro e w3 ⟨rfl, v3, hG3, hM3⟩
  refine hKk.out _ _ (HSK.out _ _ (hM1.trans (hM2.trans hM3))) (fun hheld => ?_)
  clear hKk Kk
  refine wpAnyH_ready (rs := [17]) (by kernel_rfl) (by simp) ?_
  refine AllReadyH.cons rfl (fun Kk hKk => ?_) AllReadyH.nil
  go_simp
  refine hKk.out _ _ hheld (fun hheld => ?_)
  clear hKk Kk
  refine wpAnyH_done (by kernel_rfl) ?_ _
  go_wp2_with fail
  go_ret
  have hM := hM1.trans (hM2.trans hM3)
  have hd : NodeIs lw w3 (rb - 1) ⟨.nilFunc, (Re.add a next N).1, (Re.add b next (Re.add a next N).2).1⟩ (.ways (Re.add a next N).1 (Re.add b next (Re.add a next N).2).1) := ⟨rfl, rfl, rfl⟩
  have hln := hN2.length
  refine ⟨?_, v3, _, hG3, NRep.snoc hd (NRep.like (fun k _ hk => hM3.block (by omega)) hM3.size hN2), GMoved.after HB.out.drew hrb hM⟩
  rw [← hln]
  rfl

end Go.Proofs.YtgcmjidphoklkaaGreatDoor.Rx
