/- Walk over layer 5's add: one rune. -/
import Derived.Test.YtgcmjidphoklkaaGreatDoorRxGb
namespace Go.Proofs.YtgcmjidphoklkaaGreatDoor.Rx
open Go.RowKit Go.Sort
variable {lw : Nat}

attribute [local go_sem] run_store_one

theorem Gr.below {rb : Nat} {v : Value} {ns : List NdM} {w w' : World} (h : Gr rb v ns w) (hb : Below w.heap.size w w') (hrb : rb < w.heap.size) : Gr rb v ns w' :=
  ⟨(hb.cell (p := ⟨rb, 10, none⟩) hrb).trans h.cell, (hb.frozen (p := ⟨rb, 10, none⟩) hrb).trans h.free, h.own.kept (grownBy_of_below hb) (by cases v.ownBlock <;> simp), h.ne⟩

theorem Gr.refl {rb : Nat} {v : Value} {ns : List NdM} {w : World} (h : Gr rb v ns w) : GMoved rb v v w w where
  below := Below.refl _ _
  self := by rw [setCell_self h.cell]
  keep := fun _ _ _ _ => rfl
  own := .inl rfl

theorem GMoved.after {rb : Nat} {v v' : Value} {w w1 w2 : World} (hb : Below w.heap.size w w1) (hrb : rb < w.heap.size) (m : GMoved rb v v' w1 w2) : GMoved rb v v' w w2 where
  below := (hb.mono (by omega)).trans m.below
  self := m.self.trans (setCell_self_block (hb.block rb hrb) 10 v')
  keep := fun k hk hne ho => (m.keep k (by have := hb.size; omega) hne ho).trans (hb.block k hk)
  own := by
    rcases m.own with h | ⟨g, h, hg⟩
    · exact .inl h
    · exact .inr ⟨g, h, by have := hb.size; omega⟩

/-- The part's own cells, behind the call's first step: a block of its own. -/
theorem box9 {w : World} {c : P9} : Below w.heap.size w (w.alloc (.cells #[.int .i64 c.kind, c.is, .bool c.plain, .int .i32 c.r, c.kids, .int .i64 c.least, .int .i64 c.most, .bool c.brace, .int .i64 c.n] 92)) ∧
    Cells9 (w.alloc (.cells #[.int .i64 c.kind, c.is, .bool c.plain, .int .i32 c.r, c.kids, .int .i64 c.least, .int .i64 c.most, .bool c.brace, .int .i64 c.n] 92)) w.heap.size 0 c := by
  refine ⟨(Below.refl _ _).alloc (Nat.le_refl _) _, ?_⟩
  constructor <;> simp [go_sem]

theorem add_one (p : Int → Bool) (pl : Option Int) : AddSaid (.one p pl) := by
  intro lw w rb v ns N c K C next hp hK hG hN hrb hlen
  have h1 : c.kind = 0 := hp.1
  have hI : IsP w C c.is p := hp.2.1
  have h9 : c.n = Re.cnt (.one p pl) := hp.2.2.2.2.2.2.2.2.1
  clear hp
  obtain ⟨hb, hc⟩ := box9 (w := w) (c := c)
  have HG := Lib.hid hG
  have HN := Lib.hid hN
  have HK := Lib.hid hK
  obtain ⟨ck, ci, cp, cr, cd, cl, cm, cb, cn⟩ := c
  simp only at h1 h9 hI
  subst h1
  have h9' : cn = 1 := by rw [h9]; simp [Re.cnt]
  subst h9'
  obtain ⟨g, fcap, rfl, _⟩ := id hI
  have HI := Lib.hid hI
  have hln := hN.length
  simp only [Re.add, List.length_append, List.length_singleton] at hlen
  have HB := Lib.hid hb
  have HC := Lib.hid hc
  clear hG hN hI hK h9 hb hc
  go_enter Tryz.func44, Tryz.ntmps44
  go_wp2_with fail
  have hsz := HB.out.size
  refine (put_any _ rb v ns ⟨.func (.func g) #[] fcap, next, 0⟩ (HG.out.below HB.out hrb) rfl (by omega) (by omega)).mono ?_
  rintro e w2 ⟨rfl, v', hG2, hm⟩
  have HG2 := Lib.hid hG2
  have HM := Lib.hid (GMoved.after HB.out hrb hm)
  clear hG2 hm
  go_wp2_with fail
  go_ret
  refine ⟨by simp [Re.add], v', _, HG2.out, ?_, HM.out⟩
  simp only [Re.add]
  have hd : NodeIs lw w2 (rb - 1) ⟨.func (.func g) #[] fcap, next, 0⟩ (.rune p next) := ⟨⟨C, fun k hk => by have := HK.out k (List.mem_append_right _ hk); omega, HI.out.like ⟨fun k hk => HM.out.block (HK.out k (List.mem_append_right _ hk)).2, HM.out.size⟩⟩, rfl, rfl⟩
  exact NRep.snoc hd (HN.out.like (fun k _ hk => HM.out.block (by omega)) HM.out.size)

end Go.Proofs.YtgcmjidphoklkaaGreatDoor.Rx
