/- Walk over layer 5's add: parts in a row. -/
import Derived.Test.YtgcmjidphoklkaaGreatDoorRxGd
namespace Go.Proofs.YtgcmjidphoklkaaGreatDoor.Rx
open Go.RowKit Go.Sort
variable {lw : Nat}

attribute [local go_sem] run_store_one

/-- Behind k rounds: the last k parts are added. -/
def RwRel (lw : Nat) (w0 : World) (rb : Nat) (v0 : Value) (l : List Re) (x : Nat) (N : List Nd) (g : Nat) (nx i : Value) (wr : World) : Prop :=
  ∃ (k : Nat) (v : Value) (ns : List NdM), k + g = l.length ∧ i = .int .i64 k ∧ nx = .int .i64 (Re.addL (l.drop g) x N).1 ∧ Gr rb v ns wr ∧ NRep lw wr (rb - 1) ns (Re.addL (l.drop g) x N).2 ∧ GMoved rb v0 v w0 wr

set_option maxRecDepth 8000 in
theorem add_row (l : List Re) (ih : ∀ q, q ∈ l → AddSaid q) (hl256 : l.length ≤ 256) (hc0 : ¬ Re.cnt (.row l) = 0) : AddSaid (.row l) := by
  intro lw w rb v ns N c K C next hp hK hG hN hrb hlen
  obtain ⟨hb, hc⟩ := box9 (w := w) (c := c)
  have h1 : c.kind = 1 := hp.1
  have h9 : c.n = Re.cnt (.row l) := hp.2.2.2.2.2.2.2.1
  have hkids : Kids w (PVL Re.cnt w l) c.kids K C := hp.2.2.2.2.2.2.2.2
  obtain ⟨base, cap, hv⟩ := hkids.slice
  rw [PVL_length] at hv
  have hadd : Re.add (.row l) next N = Re.addL l next N := by simp [Re.add, hc0]
  rw [hadd] at hlen ⊢
  obtain ⟨ck, ci, cp, cr, cd, cl, cm, cb, cn⟩ := c
  simp only at h1 h9 hv hkids
  subst h1 h9 hv
  have hne : ((Re.cnt (.row l)) == 0) = false := by simpa using hc0
  generalize Re.cnt (.row l) = cnt at *
  have hsz := hb.size
  have HP := Lib.hid hp
  clear hp
  have HG0 := Lib.hid (hG.below hb hrb)
  have HM0 := Lib.hid (hG.below hb hrb).refl
  have HOW : Hid (v.ownBlock ≠ some w.heap.size) := fun e => by have := (hG.own.lt _ e).2; omega
  have HN0 := Lib.hid (hN.like (fun k _ hk => hb.block k (by omega)) hb.size)
  have HKD := Lib.hid hkids
  have HK := Lib.hid hK
  have HIH := Lib.hid ih
  have HLEN := Lib.hid hlen
  have HC := Lib.hid hc
  have HB := Lib.hid hb
  obtain ⟨c0, c1, c2, c3, c4, c5, c6, c7, c8⟩ := hc
  simp only [Nat.zero_add] at c0 c1 c2 c3 c4 c5 c6 c7 c8
  clear hG hN hkids hK ih hlen hb hadd hc0
  generalize hL : l.length = L at *
  have HL := Lib.hid hL
  clear hL
  go_enter Tryz.func44, Tryz.ntmps44
  go_wp2_with fail
  have hdr : l.drop L = [] := by rw [← HL.out]; exact List.drop_length
  have HDR := Lib.hid hdr
  clear hdr
  generalize hW0 : w.alloc (.cells #[.int .i64 1, ci, .bool cp, .int .i32 cr, .slice base L cap, .int .i64 cl, .int .i64 cm, .bool cb, .int .i64 cnt] 92) = W0 at *
  have hs0 : W0.heap.size = w.heap.size + 1 := by rw [← hW0]; simp
  clear hW0
  go_loopg [2, 55] L (fun g nx i wr => RwRel lw W0 rb v l next N g nx i wr)
  case atStart => exact ⟨0, v, ns, by rw [HL.out]; omega, rfl, by rw [HDR.out]; rfl, HG0.out, by rw [HDR.out]; exact HN0.out, HM0.out⟩
  case round =>
    obtain ⟨k, v1, ns1, hkg, rfl, rfl, hG1, hN1, HM1⟩ := hrel
    have hcr := HC.out.like (HM1.keep w.heap.size (by omega) (by omega) HOW.out)
    have HG := Lib.hid hG1
    have HN := Lib.hid hN1
    have HM := Lib.hid HM1
    have HCR := Lib.hid hcr
    clear hG1 hN1 HM1 c0 c1 c2 c3 c4 c5 c6 c7 c8
    obtain ⟨c0, c1, c2, c3, c4, c5, c6, c7, c8⟩ := hcr
    simp only [Nat.zero_add] at c0 c1 c2 c3 c4 c5 c6 c7 c8
    by_cases hlt : k < L
    · obtain ⟨j, rfl⟩ : ∃ j, gk = j + 1 := ⟨gk - 1, by have := HL.out; omega⟩
      have hjl : j < l.length := by omega
      have hq : l[j]? = some l[j] := List.getElem?_eq_getElem hjl
      have hp2 := (HP.out.like ⟨fun k hk => HB.out.block k (by have := HK.out k hk; omega), by omega⟩).gmoved HK.out HM.out
      have hk2 : Kids wr (PVL Re.cnt wr l) (.slice base L cap) K C := hp2.2.2.2.2.2.2.2.2
      obtain ⟨kb, cap', c2, K1, C1, hv, hkbK, hfk, hK1, hC1, hc2, hpq⟩ := hk2.get hq
      rw [HL.out] at hv
      injection hv with hv1 _ hv3
      subst hv1 hv3
      have hkj : k + (j + 1) = L := by rw [← HL.out]; exact hkg
      have hw1 : IntKind.i64.wrap ((L : Int) - 1) = (L : Int) - 1 := by rw [IntKind.wrap_i64] <;> omega
      have hw2 : IntKind.i64.wrap ((L : Int) - 1 - (k : Int)) = (j : Int) := by rw [IntKind.wrap_i64] <;> omega
      have hw3 : ((L : Int) - 1 - (k : Int)) = (j : Int) := by omega
      have hjL : j < L := by omega
      have HHC := Lib.hid hc2
      obtain ⟨x0, x1, x2, x3, x4, x5, x6, x7, x8⟩ := hc2
      have hadr := addL_drop l next N j l[j] hq
      have hprt := addL_part l next N j
      have hlb := HLEN.out
      have hszr := HM.out.size
      have HCT := Lib.hid (HIH.out l[j] (List.getElem_mem hjl) lw wr rb v1 ns1 _ c2 K1 C1 _ hpq (fun x hx => HK.out x ((List.mem_append.1 hx).elim (fun h => List.mem_append_left _ (hK1 x h)) (fun h => List.mem_append_right _ (hC1 x h)))) HG.out HN.out (by omega) (by rw [← hadr]; omega))
      have HADR := Lib.hid hadr
      have hw4 : IntKind.i64.wrap ((k : Int) + 1) = (k : Int) + 1 := by rw [IntKind.wrap_i64] <;> omega
      clear hadr hprt hlb hpq hq hp2 hk2
      go_wp2_with fail
      refine HCT.out.mono ?_
      rintro e w2 ⟨rfl, v2, ns2, hG2, hN2, hM2⟩
      have HG2 := Lib.hid hG2
      have HN2 := Lib.hid hN2
      have HM2 := Lib.hid hM2
      clear hG2 hN2 hM2 HCT
      go_wp2_with fail
      go_roundg j
      case measure => omega
      case rel => exact ⟨k + 1, v2, ns2, by omega, by simp, by rw [HADR.out], HG2.out, by rw [HADR.out]; exact HN2.out, HM.out.trans HM2.out⟩
    · obtain rfl : gk = 0 := by have := HL.out; omega
      go_wp2_with fail
      go_ret
      exact ⟨by simp, v1, ns1, HG.out, by simpa using HN.out, GMoved.after HB.out hrb HM.out⟩

end Go.Proofs.YtgcmjidphoklkaaGreatDoor.Rx
