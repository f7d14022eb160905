/- Walk over layer 5's loop: a part so many times. -/
import Derived.Test.YtgcmjidphoklkaaGreatDoorRxGh
namespace Go.Proofs.YtgcmjidphoklkaaGreatDoor.Rx
open Go.RowKit Go.Sort
variable {lw : Nat}

attribute [local go_sem] run_store_one

set_option maxRecDepth 8000 in
theorem loop_any (k : Re) (m n : Int) (br : Bool) (ihk : AddSaid k) (hw : Re.WF (.loop k m n br)) (w : World) (rb : Nat) (v : Value) (ns : List NdM) (N : List Nd) (c : P9) (K C : List Nat) (next : Nat)
    (hp : PV Re.cnt w (.loop k m n br) c K C) (hK : ∀ x, x ∈ K ++ C → lw ≤ x ∧ x + 1 < rb) (hG : Gr rb v ns w) (hN : NRep lw w (rb - 1) ns N) (hrb : rb < w.heap.size) (hlen : (Re.add (.loop k m n br) next N).2.length ≤ 1000000) :
    Calls Tryz.prog 59 #[.pointer (some ⟨rb, 0, none⟩), c.agg, .int .i64 next] w (Adds lw rb v w (Re.add (.loop k m n br) next N)) := by
  obtain ⟨hb, hc⟩ := box9 (w := w) (c := c)
  have hl : c.least = m := hp.2.2.2.2.1
  have hm : c.most = n := hp.2.2.2.2.2.1
  have hkids : Kids w (PVL Re.cnt w [k]) c.kids K C := hp.2.2.2.2.2.2.2.2
  clear hp
  obtain ⟨kb, cap, ca, Ka, Ca, hv, hkbK, hfk, hKa, hCa, hca, hpa⟩ := hkids.get (j := 0) (q := k) rfl
  obtain ⟨ck, ci, cp, cr, cd, cl, cm, cb, cn⟩ := c
  simp only at hl hm hv hkids
  subst hl hm hv
  have hcn := hpa.n_is
  have HWF := Lib.hid hw
  obtain ⟨hw1, hw2, hw3, hw4, hw5, hw6⟩ := hw
  have HW1 := Lib.hid hw1
  have HW3 := Lib.hid hw3
  have hsz := hb.size
  have HK := Lib.hid hK
  have HB := Lib.hid hb
  have HC := Lib.hid hc
  have HG := Lib.hid hG
  have HN := Lib.hid hN
  have HA := Lib.hid ihk
  have HLEN := Lib.hid hlen
  have HPA := Lib.hid hpa
  have HKA : Hid (∀ x, x ∈ Ka ++ Ca → lw ≤ x ∧ x + 1 < rb) := fun x hx => HK.out x ((List.mem_append.1 hx).elim (fun h => List.mem_append_left _ (hKa x h)) (fun h => List.mem_append_right _ (hCa x h)))
  have hkbr : kb + 1 < rb := (HK.out kb (List.mem_append_left _ hkbK)).2
  obtain ⟨c0, c1, c2, c3, c4, c5, c6, c7, c8⟩ := hc
  simp only [Nat.zero_add] at c0 c1 c2 c3 c4 c5 c6 c7 c8
  have hda := hca
  have hkbw : kb < w.heap.size := by omega
  have hkn1 : ¬ kb = w.heap.size := by omega
  have hkn2 : ¬ w.heap.size = kb := by omega
  obtain ⟨x0, x1, x2, x3, x4, x5, x6, x7, x8⟩ := hda
  simp only [Nat.zero_mul, Nat.zero_add] at x0 x1 x2 x3 x4 x5 x6 x7 x8
  obtain ⟨o1, o2⟩ := hpa.one
  have HW : Hid (∀ W0, W0 = (w.alloc (.cells #[.int .i64 ck, ci, .bool cp, .int .i32 cr, .slice (some ⟨kb, 0, none⟩) 1 cap, .int .i64 cl, .int .i64 cm, .bool cb, .int .i64 cn] 92)).alloc (.cells #[.int .i64 ca.kind, ca.is, .bool ca.plain, .int .i32 ca.r, ca.kids, .int .i64 ca.least, .int .i64 ca.most, .bool ca.brace, .int .i64 ca.n] 92) → Below w.heap.size w W0 ∧ W0.heap.size = w.heap.size + 2 ∧ Cells9 W0 w.heap.size 0 ⟨ck, ci, cp, cr, .slice (some ⟨kb, 0, none⟩) 1 cap, cl, cm, cb, cn⟩ ∧ Cells9 W0 (w.heap.size + 1) 0 ca) := by
    rintro W0 rfl
    refine ⟨((Below.refl _ _).alloc (Nat.le_refl _) _).alloc (by simp) _, by simp, ?_, ?_⟩
    · constructor <;> simp [go_sem]
    · constructor <;> simp [go_sem]
  have HOW : Hid (v.ownBlock ≠ some w.heap.size) := fun e => by have := (HG.out.own.lt _ e).2; omega
  have HOW1 : Hid (v.ownBlock ≠ some (w.heap.size + 1)) := fun e => by have := (HG.out.own.lt _ e).2; omega
  clear hG hN hkids hK hb hca hpa ihk hlen hKa hCa hfk hw1 hw3 hw6 HC
  go_enter Tryz.func59, Tryz.ntmps59
  by_cases hz : Re.cnt k = 0
  · rw [hz] at hcn
    go_wp2_with fail
    generalize hWe : (w.alloc (.cells #[.int .i64 ck, ci, .bool cp, .int .i32 cr, .slice (some ⟨kb, 0, none⟩) 1 cap, .int .i64 cl, .int .i64 cm, .bool cb, .int .i64 cn] 92)).alloc (.cells #[.int .i64 ca.kind, ca.is, .bool ca.plain, .int .i32 ca.r, ca.kids, .int .i64 ca.least, .int .i64 ca.most, .bool ca.brace, .int .i64 0] 92) = W0 at *
    obtain ⟨hBW, hsW, hC, hKC⟩ := HW.out W0 (by rw [← hWe, hcn])
    go_ret
    simp only [Re.add, hz, if_true]
    exact ⟨rfl, v, ns, HG.out.below hBW hrb, HN.out.like (fun k _ hk => hBW.block k (by omega)) hBW.size, GMoved.after hBW hrb (HG.out.below hBW hrb).refl⟩
  have hne : (ca.n == 0) = false := by rw [hcn]; simpa using hz
  have HCN := Lib.hid hcn
  have HX : Hid (Re.add (.loop k cl cm br) next N = iter (Re.add k) cl.toNat (iter (optional (Re.add k) next) (cm - cl).toNat (if cm < 0 then star (Re.add k) next N else (next, N)))) := by
    show _ = _
    simp only [Re.add, hz, if_false]
  clear hcn hz
  generalize hX2 : Re.add (.loop k cl cm br) next N = X2 at *
  clear hX2
  generalize hX1 : iter (optional (Re.add k) next) (cm - cl).toNat (if cm < 0 then star (Re.add k) next N else (next, N)) = X1 at *
  have HX1E := Lib.hid hX1
  have HX2 : Hid (iter (Re.add k) cl.toNat X1 = X2) := HX.out.symm
  clear hX1 HX
  by_cases hn0 : cm < 0
  · go_wp2_with fail
    generalize hWe : (w.alloc (.cells #[.int .i64 ck, ci, .bool cp, .int .i32 cr, .slice (some ⟨kb, 0, none⟩) 1 cap, .int .i64 cl, .int .i64 cm, .bool cb, .int .i64 cn] 92)).alloc (.cells #[.int .i64 ca.kind, ca.is, .bool ca.plain, .int .i32 ca.r, ca.kids, .int .i64 ca.least, .int .i64 ca.most, .bool ca.brace, .int .i64 ca.n] 92) = W0 at *
    obtain ⟨hBW, hsW, hC, hKC⟩ := HW.out W0 rfl
    have HB0 := Lib.hid hBW
    have HC := Lib.hid hC
    have HKC := Lib.hid hKC
    have HPAW := Lib.hid (HPA.out.like (⟨fun x hx => HB0.out.block x (by have := HKA.out x hx; omega), HB0.out.size⟩ : Like (Ka ++ Ca) w W0))
    have HG0 := Lib.hid (HG.out.below hBW hrb)
    have HN0 := Lib.hid (HN.out.like (fun k _ hk => hBW.block k (by omega)) hBW.size)
    clear hBW hC hKC HW HB hWe c0 c1 c2 c3 c4 c5 c6 c7 c8 x0 x1 x2 x3 x4 x5 x6 x7 x8
    have HX1 : Hid (iter (optional (Re.add k) next) (cm - cl).toNat (star (Re.add k) next N) = X1) := by
      have := HX1E.out
      rw [if_pos hn0] at this
      exact this
    clear HX1E
    have hls : (Re.add k N.length (N ++ [.ways 0 next])).2.length ≤ 1000000 := by
      have h1 := iter_len (fun x N => optional_len k next x N) (cm - cl).toNat (star (Re.add k) next N)
      have h3 := iter_len (fun x N => add_len k x N) cl.toNat X1
      rw [HX2.out] at h3
      rw [HX1.out] at h1
      have h4 := Nat.le_trans h1 (Nat.le_trans h3 HLEN.out)
      simpa [star] using h4
    have hlN : N.length + 1 ≤ (Re.add k N.length (N ++ [.ways 0 next])).2.length := by have h := add_len k N.length (N ++ [.ways 0 next]); rw [List.length_append] at h; exact h
    have HLS := Lib.hid hls
    have HLN := Lib.hid hlN
    refine (put_any W0 rb v ns ⟨.nilFunc, 0, next⟩ HG0.out rfl (by rw [HN0.out.length]; omega) (by omega)).mono ?_
    rintro e w1 ⟨he, v1, hG1, hM1⟩
    rw [HN0.out.length] at he
    subst he
    clear hls hlN
    have HG1 := Lib.hid hG1
    have HM1 := Lib.hid hM1
    have hd : NodeIs lw w1 (rb - 1) ⟨.nilFunc, 0, next⟩ (.ways 0 next) := ⟨rfl, rfl, rfl⟩
    have HN1 := Lib.hid (NRep.snoc hd (HN0.out.like (fun k _ hk => hM1.block (by omega)) hM1.size))
    clear hG1 hM1 hd
    have hsz1 := HM1.out.size
    have hcr := HC.out.like (HM1.out.keep w.heap.size (by omega) (by omega) HOW.out)
    have hkr := HKC.out.like (HM1.out.keep (w.heap.size + 1) (by omega) (by omega) HOW1.out)
    obtain ⟨c0, c1, c2, c3, c4, c5, c6, c7, c8⟩ := hcr
    obtain ⟨x0, x1, x2, x3, x4, x5, x6, x7, x8⟩ := hkr
    simp only [Nat.zero_add] at c0 c1 c2 c3 c4 c5 c6 c7 c8 x0 x1 x2 x3 x4 x5 x6 x7 x8
    go_wp2_with fail
    refine (HA.out lw w1 rb v1 _ _ ca Ka Ca N.length (HPAW.out.gmoved HKA.out HM1.out) HKA.out HG1.out HN1.out (by omega) HLS.out).mono ?_
    rintro e w2 ⟨rfl, v2, ns2, hG2, hN2, hM2⟩
    have hi2 : (Re.add k N.length (N ++ [.ways 0 next])).2[N.length]? = some (.ways 0 next) := by
      rw [add_old HW1.out _ _ _ (by simp), get_snoc]
    obtain ⟨n2, hn2, hd2⟩ := hN2.get hi2
    obtain ⟨hd21, hd22, hd23⟩ : n2.is = .nilFunc ∧ n2.a = (0 : Nat) ∧ n2.b = next := hd2
    obtain ⟨n2i, n2a, n2b⟩ := n2
    simp only at hd21 hd22 hd23
    subst hd21 hd22 hd23
    have hl2 := hN2.length
    have hl3 := HLN.out
    obtain ⟨g, cap2, rfl, hg1, hg2, hg3⟩ := hG2.row (by omega)
    have hnd := hG2.node hn2
    obtain ⟨hnd1, hnd2, hnd3, hnd4⟩ := hnd
    simp only at hnd1 hnd2 hnd3
    have hrc := hG2.cell
    have hgl : N.length < ns2.length := by omega
    have HG3 := Lib.hid (hG2.stored hn2 (Re.add k N.length (N ++ [.ways 0 next])).1)
    have hdd : NodeIs lw w2 (rb - 1) ⟨.nilFunc, (Re.add k N.length (N ++ [.ways 0 next])).1, next⟩ (.ways (Re.add k N.length (N ++ [.ways 0 next])).1 next) := ⟨rfl, rfl, rfl⟩
    have HN2 := Lib.hid (NRep.set hdd N.length hN2)
    have HM3 := Lib.hid ((HM1.out.trans hM2).stored rfl hg3 hg1 (j := N.length * 3 + 1) (.int .i64 (Re.add k N.length (N ++ [.ways 0 next])).1))
    clear hG2 hN2 hM2 hi2 hn2 hdd hl2 hl3 c0 c1 c2 c3 c4 c5 c6 c7 c8 x0 x1 x2 x3 x4 x5 x6 x7 x8
    have hgn : ∀ x, x < W0.heap.size → v.ownBlock ≠ some x → ¬ g = x := fun x hx ho e => by
      subst e
      rcases HM3.out.own with h | ⟨g', h, hg'⟩
      · exact ho (h ▸ rfl)
      · have h9 : g = g' := by injection h
        omega
    have hgn1 := hgn w.heap.size (by omega) HOW.out
    have hgn2 := hgn (w.heap.size + 1) (by omega) HOW1.out
    have hgn3 : ¬ w.heap.size = g := fun e => hgn1 e.symm
    have hgn4 : ¬ w.heap.size + 1 = g := fun e => hgn2 e.symm
    have hcr : Cells9 w2 w.heap.size 0 ⟨ck, ci, cp, cr, .slice (some ⟨kb, 0, none⟩) 1 cap, cl, cm, cb, cn⟩ := HC.out.like ((setCell_block_ne w2 _ _ _ hgn3).symm.trans (HM3.out.keep w.heap.size (by omega) (by omega) HOW.out))
    obtain ⟨c0, c1, c2, c3, c4, c5, c6, c7, c8⟩ := hcr
    simp only [Nat.zero_add] at c0 c1 c2 c3 c4 c5 c6 c7 c8
    clear hgn
    generalize hL2 : ns2.length = L2 at *
    go_wp2_with fail
    clear c0 c1 c2 c3 c4 c5 c6 c7 c8
    have HNS : Hid (NRep lw (w2.setCell ⟨g, N.length * 3 + 1, none⟩ (.int .i64 (Re.add k N.length (N ++ [.ways 0 next])).1)) (rb - 1) (ns2.set N.length ⟨.nilFunc, (Re.add k N.length (N ++ [.ways 0 next])).1, next⟩) (star (Re.add k) next N).2) := HN2.out.like (fun x _ hx => setCell_block_ne _ _ _ _ (by show x ≠ g; omega)) (by rw [setCell_size]; exact Nat.le_refl _)
    subst hL2
    have HMS := Lib.hid HM3.out
    have HGS := Lib.hid HG3.out
    clear HM3 HG3 HN2
    generalize hWe3 : w2.setCell ⟨g, N.length * 3 + 1, none⟩ (.int .i64 (Re.add k N.length (N ++ [.ways 0 next])).1) = W3 at *
    go_loopg [8, 10] (cm - cl).toNat (fun g at_ i wr => LpRel lw W0 rb v (optional (Re.add k) next) X1 cm g at_ i wr)
    case atStart => exact ⟨_, cl, _, _, HX1.out, rfl, by omega, by omega, rfl, rfl, HGS.out, HNS.out, HMS.out⟩
    case round =>
      obtain ⟨x, q, v1, ns1, hx, rfl, hq0, hq9, hgq, rfl, hG1, hN1, hM1⟩ := hrel
      have HM := Lib.hid hM1
      have hszr := hM1.size
      have hcr := HC.out.like (HM.out.keep w.heap.size (by omega) (by omega) HOW.out)
      have hkr := HKC.out.like (HM.out.keep (w.heap.size + 1) (by omega) (by omega) HOW1.out)
      obtain ⟨c0, c1, c2, c3, c4, c5, c6, c7, c8⟩ := hcr
      obtain ⟨x0, x1, x2, x3, x4, x5, x6, x7, x8⟩ := hkr
      simp only [Nat.zero_add] at c0 c1 c2 c3 c4 c5 c6 c7 c8 x0 x1 x2 x3 x4 x5 x6 x7 x8
      have HG1 := Lib.hid hG1
      have HN1 := Lib.hid hN1
      have HXX := Lib.hid hx
      clear hG1 hN1 hM1 hx
      by_cases hlt : q < cm
      · exfalso; omega
      · obtain rfl : gk = 0 := by omega
        have hxe : x = X1 := HXX.out
        clear HXX
        subst hxe
        have HGL := Lib.hid HG1.out
        have HNL := Lib.hid HN1.out
        have HML := Lib.hid HM.out
        clear hgq hq0 hq9 HG1 HN1 HM
        go_wp2_with fail
        clear hlt c0 c1 c2 c3 c4 c5 c6 c7 c8 x0 x1 x2 x3 x4 x5 x6 x7 x8
        go_loopg [8, 57] cl.toNat (fun g at_ i wr => LpRel lw W0 rb v (Re.add k) X2 cl g at_ i wr)
        case atStart => exact ⟨_, 0, _, _, HX2.out, rfl, by omega, by omega, by omega, rfl, HGL.out, HNL.out, HML.out⟩
        case round =>
          obtain ⟨x, q, v1, ns1, hx, rfl, hq0, hq9, hgq, rfl, hG1, hN1, hM1⟩ := hrel
          have HM := Lib.hid hM1
          have hszr := hM1.size
          have hcr := HC.out.like (HM.out.keep w.heap.size (by omega) (by omega) HOW.out)
          have hkr := HKC.out.like (HM.out.keep (w.heap.size + 1) (by omega) (by omega) HOW1.out)
          obtain ⟨c0, c1, c2, c3, c4, c5, c6, c7, c8⟩ := hcr
          obtain ⟨x0, x1, x2, x3, x4, x5, x6, x7, x8⟩ := hkr
          simp only [Nat.zero_add] at c0 c1 c2 c3 c4 c5 c6 c7 c8 x0 x1 x2 x3 x4 x5 x6 x7 x8
          have HG1 := Lib.hid hG1
          have HN1 := Lib.hid hN1
          have HXX := Lib.hid hx
          clear hG1 hN1 hM1 hx
          by_cases hlt : q < cl
          · obtain ⟨j, rfl⟩ : ∃ j, gk = j + 1 := ⟨gk - 1, by omega⟩
            have hle : (Re.add k x.1 x.2).2.length ≤ 1000000 := by
              have h1 := iter_len (fun x N => add_len k x N) j (Re.add k x.1 x.2)
              have h2 : iter (Re.add k) j (Re.add k x.1 x.2) = X2 := HXX.out
              rw [h2] at h1
              exact Nat.le_trans h1 HLEN.out
            have HCT := Lib.hid (HA.out lw wr rb v1 ns1 x.2 ca Ka Ca x.1 (HPAW.out.gmoved HKA.out HM.out) HKA.out HG1.out HN1.out (by omega) hle)
            have hw1 : IntKind.i64.wrap (q + 1) = q + 1 := by rw [IntKind.wrap_i64] <;> omega
            clear hle
            go_wp2_with fail
            refine HCT.out.mono ?_
            rintro e w2 ⟨rfl, v2, ns2, hG2, hN2, hM2⟩
            have HG2 := Lib.hid hG2
            have HN2 := Lib.hid hN2
            have HM2 := Lib.hid hM2
            clear hG2 hN2 hM2 HCT
            go_wp2_with fail
            go_roundg j
            case measure => omega
            case rel => exact ⟨_, q + 1, v2, ns2, HXX.out, rfl, by omega, by omega, by omega, rfl, HG2.out, HN2.out, HM.out.trans HM2.out⟩
          · obtain rfl : gk = 0 := by omega
            go_wp2_with fail
            go_ret
            have hxe : x = X2 := HXX.out
            subst hxe
            exact ⟨rfl, v1, ns1, HG1.out, HN1.out, GMoved.after HB0.out hrb HM.out⟩
  · go_wp2_with fail
    generalize hWe : (w.alloc (.cells #[.int .i64 ck, ci, .bool cp, .int .i32 cr, .slice (some ⟨kb, 0, none⟩) 1 cap, .int .i64 cl, .int .i64 cm, .bool cb, .int .i64 cn] 92)).alloc (.cells #[.int .i64 ca.kind, ca.is, .bool ca.plain, .int .i32 ca.r, ca.kids, .int .i64 ca.least, .int .i64 ca.most, .bool ca.brace, .int .i64 ca.n] 92) = W0 at *
    obtain ⟨hBW, hsW, hC, hKC⟩ := HW.out W0 rfl
    have HB0 := Lib.hid hBW
    have HC := Lib.hid hC
    have HKC := Lib.hid hKC
    have HPAW := Lib.hid (HPA.out.like (⟨fun x hx => HB0.out.block x (by have := HKA.out x hx; omega), HB0.out.size⟩ : Like (Ka ++ Ca) w W0))
    have HGS := Lib.hid (HG.out.below hBW hrb)
    have HNS := Lib.hid (HN.out.like (fun k _ hk => hBW.block k (by omega)) hBW.size)
    have HMS := Lib.hid HGS.out.refl
    have HX1 : Hid (iter (optional (Re.add k) next) (cm - cl).toNat (next, N) = X1) := by
      have := HX1E.out
      rw [if_neg (Int.not_lt.2 hn0)] at this
      exact this
    clear HX1E
    clear hBW hC hKC HW HB hWe c0 c1 c2 c3 c4 c5 c6 c7 c8 x0 x1 x2 x3 x4 x5 x6 x7 x8
    go_loopg [8, 10] (cm - cl).toNat (fun g at_ i wr => LpRel lw W0 rb v (optional (Re.add k) next) X1 cm g at_ i wr)
    case atStart => exact ⟨_, cl, _, _, HX1.out, rfl, by omega, by omega, rfl, rfl, HGS.out, HNS.out, HMS.out⟩
    case round =>
      obtain ⟨x, q, v1, ns1, hx, rfl, hq0, hq9, hgq, rfl, hG1, hN1, hM1⟩ := hrel
      have HM := Lib.hid hM1
      have hszr := hM1.size
      have hcr := HC.out.like (HM.out.keep w.heap.size (by omega) (by omega) HOW.out)
      have hkr := HKC.out.like (HM.out.keep (w.heap.size + 1) (by omega) (by omega) HOW1.out)
      obtain ⟨c0, c1, c2, c3, c4, c5, c6, c7, c8⟩ := hcr
      obtain ⟨x0, x1, x2, x3, x4, x5, x6, x7, x8⟩ := hkr
      simp only [Nat.zero_add] at c0 c1 c2 c3 c4 c5 c6 c7 c8 x0 x1 x2 x3 x4 x5 x6 x7 x8
      have HG1 := Lib.hid hG1
      have HN1 := Lib.hid hN1
      have HXX := Lib.hid hx
      clear hG1 hN1 hM1 hx
      by_cases hlt : q < cm
      · obtain ⟨j, rfl⟩ : ∃ j, gk = j + 1 := ⟨gk - 1, by omega⟩
        have hle : (Re.add k x.1 x.2).2.length + 1 ≤ 1000000 := by
          have h1 := iter_len (fun x N => optional_len k next x N) j (optional (Re.add k) next x.1 x.2)
          have h2 : iter (optional (Re.add k) next) j (optional (Re.add k) next x.1 x.2) = X1 := HXX.out
          have h3 := iter_len (fun x N => add_len k x N) cl.toNat X1
          rw [HX2.out] at h3
          rw [h2] at h1
          have h4 := Nat.le_trans h1 (Nat.le_trans h3 HLEN.out)
          simpa [optional] using h4
        have HCT := Lib.hid (HA.out lw wr rb v1 ns1 x.2 ca Ka Ca x.1 (HPAW.out.gmoved HKA.out HM.out) HKA.out HG1.out HN1.out (by omega) (by omega))
        have hw1 : IntKind.i64.wrap (q + 1) = q + 1 := by rw [IntKind.wrap_i64] <;> omega
        have HLE := Lib.hid hle
        clear hle
        go_wp2_with fail
        refine HCT.out.mono ?_
        rintro e w2 ⟨rfl, v2, ns2, hG2, hN2, hM2⟩
        have HG2 := Lib.hid hG2
        have HN2 := Lib.hid hN2
        have HM2 := Lib.hid (HM.out.trans hM2)
        clear hG2 hN2 hM2 HCT
        clear c0 c1 c2 c3 c4 c5 c6 c7 c8 x0 x1 x2 x3 x4 x5 x6 x7 x8
        have hsz2 := HM2.out.size
        have hcr := HC.out.like (HM2.out.keep w.heap.size (by omega) (by omega) HOW.out)
        have hkr := HKC.out.like (HM2.out.keep (w.heap.size + 1) (by omega) (by omega) HOW1.out)
        obtain ⟨c0, c1, c2, c3, c4, c5, c6, c7, c8⟩ := hcr
        obtain ⟨x0, x1, x2, x3, x4, x5, x6, x7, x8⟩ := hkr
        simp only [Nat.zero_add] at c0 c1 c2 c3 c4 c5 c6 c7 c8 x0 x1 x2 x3 x4 x5 x6 x7 x8
        go_wp2_with fail
        refine (put_any w2 rb v2 ns2 ⟨.nilFunc, (Re.add k x.1 x.2).1, next⟩ HG2.out rfl (by rw [HN2.out.length]; have := HLE.out; omega) (by omega)).mono ?_
        rintro e w3 ⟨he, v3, hG3, hM3⟩
        rw [HN2.out.length] at he
        subst he
        have HG3 := Lib.hid hG3
        have HM3 := Lib.hid hM3
        clear hG3 hM3
        clear c0 c1 c2 c3 c4 c5 c6 c7 c8 x0 x1 x2 x3 x4 x5 x6 x7 x8
        have HMM := Lib.hid (HM2.out.trans HM3.out)
        have hsz3 := HMM.out.size
        have hcr := HC.out.like (HMM.out.keep w.heap.size (by omega) (by omega) HOW.out)
        have hkr := HKC.out.like (HMM.out.keep (w.heap.size + 1) (by omega) (by omega) HOW1.out)
        obtain ⟨c0, c1, c2, c3, c4, c5, c6, c7, c8⟩ := hcr
        obtain ⟨x0, x1, x2, x3, x4, x5, x6, x7, x8⟩ := hkr
        simp only [Nat.zero_add] at c0 c1 c2 c3 c4 c5 c6 c7 c8 x0 x1 x2 x3 x4 x5 x6 x7 x8
        go_wp2_with fail
        go_roundg j
        case measure => omega
        case rel =>
          have hd : NodeIs lw w3 (rb - 1) ⟨.nilFunc, (Re.add k x.1 x.2).1, next⟩ (.ways (Re.add k x.1 x.2).1 next) := ⟨rfl, rfl, rfl⟩
          exact ⟨_, q + 1, v3, _, HXX.out, rfl, by omega, by omega, by omega, rfl, HG3.out, NRep.snoc hd (HN2.out.like (fun k _ hk => HM3.out.block (by omega)) HM3.out.size), HMM.out⟩
      · obtain rfl : gk = 0 := by omega
        have hxe : x = X1 := HXX.out
        clear HXX
        subst hxe
        have HGL := Lib.hid HG1.out
        have HNL := Lib.hid HN1.out
        have HML := Lib.hid HM.out
        clear hgq hq0 hq9 HG1 HN1 HM
        go_wp2_with fail
        clear hlt c0 c1 c2 c3 c4 c5 c6 c7 c8 x0 x1 x2 x3 x4 x5 x6 x7 x8
        go_loopg [8, 57] cl.toNat (fun g at_ i wr => LpRel lw W0 rb v (Re.add k) X2 cl g at_ i wr)
        case atStart => exact ⟨_, 0, _, _, HX2.out, rfl, by omega, by omega, by omega, rfl, HGL.out, HNL.out, HML.out⟩
        case round =>
          obtain ⟨x, q, v1, ns1, hx, rfl, hq0, hq9, hgq, rfl, hG1, hN1, hM1⟩ := hrel
          have HM := Lib.hid hM1
          have hszr := hM1.size
          have hcr := HC.out.like (HM.out.keep w.heap.size (by omega) (by omega) HOW.out)
          have hkr := HKC.out.like (HM.out.keep (w.heap.size + 1) (by omega) (by omega) HOW1.out)
          obtain ⟨c0, c1, c2, c3, c4, c5, c6, c7, c8⟩ := hcr
          obtain ⟨x0, x1, x2, x3, x4, x5, x6, x7, x8⟩ := hkr
          simp only [Nat.zero_add] at c0 c1 c2 c3 c4 c5 c6 c7 c8 x0 x1 x2 x3 x4 x5 x6 x7 x8
          have HG1 := Lib.hid hG1
          have HN1 := Lib.hid hN1
          have HXX := Lib.hid hx
          clear hG1 hN1 hM1 hx
          by_cases hlt : q < cl
          · obtain ⟨j, rfl⟩ : ∃ j, gk = j + 1 := ⟨gk - 1, by omega⟩
            have hle : (Re.add k x.1 x.2).2.length ≤ 1000000 := by
              have h1 := iter_len (fun x N => add_len k x N) j (Re.add k x.1 x.2)
              have h2 : iter (Re.add k) j (Re.add k x.1 x.2) = X2 := HXX.out
              rw [h2] at h1
              exact Nat.le_trans h1 HLEN.out
            have HCT := Lib.hid (HA.out lw wr rb v1 ns1 x.2 ca Ka Ca x.1 (HPAW.out.gmoved HKA.out HM.out) HKA.out HG1.out HN1.out (by omega) hle)
            have hw1 : IntKind.i64.wrap (q + 1) = q + 1 := by rw [IntKind.wrap_i64] <;> omega
            clear hle
            go_wp2_with fail
            refine HCT.out.mono ?_
            rintro e w2 ⟨rfl, v2, ns2, hG2, hN2, hM2⟩
            have HG2 := Lib.hid hG2
            have HN2 := Lib.hid hN2
            have HM2 := Lib.hid hM2
            clear hG2 hN2 hM2 HCT
            go_wp2_with fail
            go_roundg j
            case measure => omega
            case rel => exact ⟨_, q + 1, v2, ns2, HXX.out, rfl, by omega, by omega, by omega, rfl, HG2.out, HN2.out, HM.out.trans HM2.out⟩
          · obtain rfl : gk = 0 := by omega
            go_wp2_with fail
            go_ret
            have hxe : x = X2 := HXX.out
            subst hxe
            exact ⟨rfl, v1, ns1, HG1.out, HN1.out, GMoved.after HB0.out hrb HM.out⟩

end Go.Proofs.YtgcmjidphoklkaaGreatDoor.Rx
