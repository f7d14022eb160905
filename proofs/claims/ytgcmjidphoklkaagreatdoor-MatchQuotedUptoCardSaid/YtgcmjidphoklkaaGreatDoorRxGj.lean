/- Walk over layer 5's add: loops; then every part. -/
import Derived.Test.YtgcmjidphoklkaaGreatDoorRxGg
import Derived.Test.YtgcmjidphoklkaaGreatDoorRxGi
namespace Go.Proofs.YtgcmjidphoklkaaGreatDoor.Rx
open Go.RowKit Go.Sort
variable {lw : Nat}

attribute [local go_sem] run_store_one

theorem cnt_loop_pos {k : Re} {m n : Int} {br : Bool} (hw : Re.WF (.loop k m n br)) : 1 ≤ Re.cnt (.loop k m n br) := by
  obtain ⟨hk, hm, hn, _⟩ := hw
  have h1 := Re.cnt_bd k hk
  have a1 : 0 ≤ Re.cnt k * (m + 1) := Int.mul_nonneg h1.1 (by omega)
  simp only [Re.cnt]
  by_cases hn0 : n < 0
  · split <;> (try rw [if_pos hn0]) <;> omega
  · have a2 : 0 ≤ Re.cnt k * n := Int.mul_nonneg h1.1 (by omega)
    split <;> (try rw [if_neg hn0]) <;> omega

theorem add_loop (k : Re) (m n : Int) (br : Bool) (ihk : AddSaid k) (hw : Re.WF (.loop k m n br)) : AddSaid (.loop k m n br) := by
  intro lw w rb v ns N c K C next hp hK hG hN hrb hlen
  obtain ⟨hb, hc⟩ := box9 (w := w) (c := c)
  have h1 : c.kind = 3 := hp.1
  have h9 := hp.n_is
  have hpos := cnt_loop_pos hw
  have hne : (c.n == 0) = false := by rw [h9]; simp; omega
  have HP := Lib.hid hp
  have HG := Lib.hid hG
  have HN := Lib.hid hN
  have HK := Lib.hid hK
  have HA := Lib.hid ihk
  have HWF := Lib.hid hw
  have HLEN := Lib.hid hlen
  have HB := Lib.hid hb
  obtain ⟨ck, ci, cp, cr, cd, cl, cm, cb, cn⟩ := c
  simp only at h1 hne
  subst h1
  obtain ⟨c0, c1, c2, c3, c4, c5, c6, c7, c8⟩ := hc
  simp only [Nat.zero_add] at c0 c1 c2 c3 c4 c5 c6 c7 c8
  clear hp hG hN hK ihk hw hlen hb h9 hpos
  generalize hX : Re.add (.loop k m n br) next N = X at *
  have HX := Lib.hid hX
  clear hX
  go_enter Tryz.func44, Tryz.ntmps44
  go_wp2_with fail
  generalize hWe : w.alloc (.cells #[.int .i64 3, ci, .bool cp, .int .i32 cr, cd, .int .i64 cl, .int .i64 cm, .bool cb, .int .i64 cn] 92) = W0 at *
  have hbW := HB.out
  refine (loop_any k m n br HA.out HWF.out W0 rb v ns N ⟨3, ci, cp, cr, cd, cl, cm, cb, cn⟩ K C next (HP.out.like ⟨fun x hx => hbW.block x (by have := HK.out x hx; omega), hbW.size⟩) HK.out (HG.out.below hbW hrb) (HN.out.like (fun k _ hk => hbW.block k (by omega)) hbW.size) (Nat.lt_of_lt_of_le hrb hbW.size) (by rw [HX.out]; exact HLEN.out)).mono ?_
  rw [HX.out]
  rintro e w2 ⟨rfl, v2, ns2, hG2, hN2, hM2⟩
  go_wp2_with fail
  go_ret
  exact ⟨rfl, v2, ns2, hG2, hN2, GMoved.after hbW hrb hM2⟩

mutual
theorem add_all : ∀ r : Re, Re.WF r → Re.Sm r → AddSaid r
  | .one p pl, _, _ => add_one p pl
  | .row l, hw, hs => if h : Re.cnt (.row l) = 0 then add_zero _ h (fun x N => by simp [Re.add, h]) else add_row l (add_allL l hw hs.1) hs.2 h
  | .fork a b, hw, hs => if h : Re.cnt (.fork a b) = 0 then add_zero _ h (fun x N => by simp [Re.add, h]) else add_fork a b (add_all a hw.1 hs.1) (add_all b hw.2 hs.2) h
  | .loop k m n br, hw, hs => add_loop k m n br (add_all k hw.1 hs) hw
theorem add_allL : ∀ l : List Re, Re.WFL l → Re.SmL l → ∀ q, q ∈ l → AddSaid q
  | [], _, _, q, hq => by simp at hq
  | r :: l, hw, hs, q, hq => (List.mem_cons.1 hq).elim (fun h => h ▸ add_all r hw.1 hs.1) (fun h => add_allL l hw.2 hs.2 q h)
end

end Go.Proofs.YtgcmjidphoklkaaGreatDoor.Rx
