/- Walk over layer 5's add: what has no states. -/
import Derived.Test.YtgcmjidphoklkaaGreatDoorRxGe
namespace Go.Proofs.YtgcmjidphoklkaaGreatDoor.Rx
open Go.RowKit Go.Sort
variable {lw : Nat}

attribute [local go_sem] run_store_one

theorem PV.n_is {N : Re → Int} {w : World} {r : Re} {c : P9} {K C : List Nat} (h : PV N w r c K C) : c.n = N r := by
  cases r with
  | one p pl => exact h.2.2.2.2.2.2.2.2.1
  | row l => exact h.2.2.2.2.2.2.2.1
  | fork a b => exact h.2.2.2.2.2.2.2.1
  | loop k m n br => exact h.2.2.2.2.2.2.2.1

theorem add_zero (r : Re) (h0 : Re.cnt r = 0) (hadd : ∀ x N, Re.add r x N = (x, N)) : AddSaid r := by
  intro lw w rb v ns N c K C next hp hK hG hN hrb hlen
  obtain ⟨hb, hc⟩ := box9 (w := w) (c := c)
  have h9 := hp.n_is
  rw [h0] at h9
  rw [hadd]
  obtain ⟨ck, ci, cp, cr, cd, cl, cm, cb, cn⟩ := c
  simp only at h9
  subst h9
  have HG0 := Lib.hid (hG.below hb hrb)
  have HM0 := Lib.hid (GMoved.after hb hrb (hG.below hb hrb).refl)
  have HN0 := Lib.hid (hN.like (fun k _ hk => hb.block k (by omega)) hb.size)
  clear hp hG hN hb hlen hadd hK
  obtain ⟨c0, c1, c2, c3, c4, c5, c6, c7, c8⟩ := hc
  simp only [Nat.zero_add] at c0 c1 c2 c3 c4 c5 c6 c7 c8
  go_enter Tryz.func44, Tryz.ntmps44
  go_wp2_with fail
  go_ret
  exact ⟨rfl, v, ns, HG0.out, HN0.out, HM0.out⟩

end Go.Proofs.YtgcmjidphoklkaaGreatDoor.Rx
