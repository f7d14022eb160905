/- Walks over layer 6: Right and Compile of matchers of any operators. -/
import Derived.Test.YteemciknbiloiaaGreatDoorEqD
import Derived.Test.YteemciknbiloiaaGreatDoorIhH
import Derived.Deep.AppendLies
namespace Go.Proofs.YteemciknbiloiaaGreatDoor.Ih
open Go.RowKit

attribute [local go_sem] run_store_one

theorem grown_below {w w' : World} (h : Below w.heap.size w w') : w.grownBy w' none := ⟨h.os, h.tape, h.output, h.size, fun k hk _ => h.block k hk⟩

theorem slice_oneG {w : World} {base : Nat} {e : TypeId} {size : Nat} {v : Value} {n : Nat} {xs : List Value} (h : w.ownsRow base e size v n xs) : v.oneCell' = true := by
  rcases h.2 with ⟨rfl, _⟩ | ⟨g, cap, cur, rfl, _⟩ <;> rfl

theorem infoPtrG : (Tryz.prog.info? 131).map (fun i => (i.zero, i.size, i.bytes)) = some (some (.pointer none), 1, 8) := by kernel_rfl

/-- A matcher that is right. -/
structure Mat.Good (m : Mat) : Prop where
  ok : GOk m.op m.n m.v
  right : rightP m.op m.n m.v = 0

set_option maxHeartbeats 2000000 in
theorem rights_g (w : World) (b off c : Nat) (l : List Mat) (hT : Lib.Utf8Tabs 0 1 w) (h2 : 2 ≤ w.heap.size) (hl : MatAt w b off l) (hlt : b < w.heap.size) (hln : l.length ≤ 16) (hok : ∀ x, x ∈ l → x.Good) :
    Calls Tryz.prog 59 #[.slice (some ⟨b, off, none⟩) l.length c] w (fun e w' => e = .returned (.tuple #[.int .i64 0, .int .i64 0]) ∧ Below w.heap.size w w') := by
  have HL := Lib.hid hl
  have HOK := Lib.hid hok
  have HT := Lib.hid hT
  clear hl hok hT
  go_enter Tryz.func59, Tryz.ntmps59
  go_wp2_with fail
  go_loopg [12] l.length (fun g i wr => ∃ k, k + g = l.length ∧ i = .int .i64 k ∧ Below w.heap.size w wr)
  case atStart => exact ⟨0, by omega, rfl, Below.refl _ _⟩
  case round =>
    obtain ⟨k, hkg, rfl, hb⟩ := hrel
    have HB := Lib.hid hb
    have hsz := hb.size
    clear hb
    by_cases hlt2 : k < l.length
    · obtain ⟨x, hx⟩ : ∃ x, l[k]? = some x := ⟨_, List.getElem?_eq_getElem hlt2⟩
      have ⟨c1, c2, c3⟩ := HL.out.below HB.out hlt k x hx
      have o := HOK.out x (List.mem_of_getElem? hx)
      have hw1 : IntKind.i64.wrap ((k : Int) + 1) = (k : Int) + 1 := by rw [IntKind.wrap_i64] <;> omega
      have hbn : ¬ b = wr.heap.size := by omega
      obtain ⟨op, n, v⟩ := x
      have HO : Hid (GOk op n v ∧ rightP op n v = 0) := Lib.hid ⟨o.ok, o.right⟩
      simp only at c1 c2 c3
      clear hx o
      have hW : Hid (∀ W, W = wr.alloc (.cells #[.int .i64 op, .string n, .string v] 71) → Below wr.heap.size wr W ∧ W.heap.size = wr.heap.size + 1) := by
        rintro W rfl
        exact ⟨(Below.refl _ _).alloc (Nat.le_refl _) _, by simp⟩
      go_wp2_with fail
      generalize hWe : wr.alloc (.cells #[.int .i64 op, .string n, .string v] 71) = W at *
      obtain ⟨hbW, hszW⟩ := hW.out W rfl
      clear hW hWe c1 c2 c3
      have HBW := Lib.hid hbW
      clear hbW
      refine (new_any W op n v).mono ?_
      rintro e w2 ⟨mb, rfl, hmb, hb2, says, hmt⟩
      have HB2 := Lib.hid (HB.out.trans ((HBW.out.trans (hb2.mono (by omega))).mono hsz))
      have HMT : Hid (MtG w2 mb op n v w2.heap.size) := Lib.hid (MtG.fresh hmt hmt.lt (Nat.le_refl _))
      have hsz2 := hb2.size
      clear hb2 hmt
      go_wp2_with fail
      refine (right_g w2 mb w2.heap.size op n v (Utf8Tabs_below HT.out HB2.out) (by omega) HMT.out HO.out.1).mono ?_
      rintro e w3 ⟨rfl, hb3, _⟩
      rw [HO.out.2]
      have HB3 := Lib.hid (HB2.out.trans (hb3.below (B := w.heap.size) (by omega) (by omega)))
      clear hb3
      go_wp2_with fail
      go_roundg (gk - 1)
      case measure => omega
      case rel => exact ⟨k + 1, by omega, by simp, HB3.out⟩
    · obtain rfl : gk = 0 := by omega
      go_wp2_with fail
      go_ret2
      exact ⟨rfl, HB.out⟩

def ptrsOf (bs : List Nat) : List Value := bs.map fun b => .pointer (some ⟨b, 0, none⟩)

/-- A list that is compiled, nobody has asked it yet. -/
structure LsNew (w : World) (xb : Nat) (v : Value) (bs : List Nat) (l : List Mat) (lo : Nat) : Prop where
  cell : w.cell? ⟨xb, 0, none⟩ = some v
  free : w.frozen? ⟨xb, 0, none⟩ = false
  own : w.ownsRow lo 131 1 v bs.length (ptrsOf bs)
  len : bs.length = l.length
  mt : ∀ (i b : Nat) (m : Mat), bs[i]? = some b → l[i]? = some m → ∃ says, MtAt w b m.op m.n m.v 0 0 0 says
  lo1 : lo ≤ xb
  lo2 : ∀ b, b ∈ bs → lo ≤ b
  ne1 : ∀ b, b ∈ bs → b ≠ xb
  ne2 : ∀ b, b ∈ bs → v.ownBlock ≠ some b
  ne3 : v.ownBlock ≠ some xb
  nd : bs.Nodup
  lt : xb < w.heap.size

theorem LsNew.mem_lt {w : World} {xb lo : Nat} {v : Value} {bs : List Nat} {l : List Mat} (h : LsNew w xb v bs l lo) (b : Nat) (hb : b ∈ bs) : b < w.heap.size := by
  obtain ⟨i, hi, rfl⟩ := List.getElem_of_mem hb
  have hl : i < l.length := by rw [← h.len]; exact hi
  obtain ⟨says, hm⟩ := h.mt i _ _ (List.getElem?_eq_getElem hi) (List.getElem?_eq_getElem hl)
  exact hm.lt

theorem LsNew.below {w w' : World} {xb lo : Nat} {v : Value} {bs : List Nat} {l : List Mat} (h : LsNew w xb v bs l lo) (hb : Below w.heap.size w w') : LsNew w' xb v bs l lo where
  cell := (hb.cell (p := ⟨xb, 0, none⟩) h.lt).trans h.cell
  free := (hb.frozen (p := ⟨xb, 0, none⟩) h.lt).trans h.free
  own := h.own.kept (grown_below hb) (by cases v.ownBlock <;> simp)
  len := h.len
  mt := fun i b m h1 h2 => (h.mt i b m h1 h2).imp fun _ k => k.like (hb.block b k.lt) hb.size
  lo1 := h.lo1
  lo2 := h.lo2
  ne1 := h.ne1
  ne2 := h.ne2
  ne3 := h.ne3
  nd := h.nd
  lt := Nat.lt_of_lt_of_le h.lt hb.size

theorem compg_end {w w2 w7 : World} {xb mb gg cap lo : Nat} {v : Value} {bs : List Nat} {l : List Mat} {m : Mat} {o : Obj} {says : Value} (hb : Below lo w w2) (hlo : lo ≤ w2.heap.size) (hL : LsNew w2 xb v bs l lo) (hm : MtAt w2 mb m.op m.n m.v 0 0 0 says) (hmb : ∀ b, b ∈ bs → b < mb) (hxm : xb < mb) (hvm : ∀ g, v.ownBlock = some g → g < mb) (hlm : lo ≤ mb)
    (hgr : (w2.alloc o).grownBy w7 v.ownBlock) (hown : w7.ownsRow lo 131 1 (.slice (some ⟨gg, 0, none⟩) (bs.length + 1) cap) (bs.length + 1) (ptrsOf bs ++ [.pointer (some ⟨mb, 0, none⟩)])) (hat : v.ownBlock = some gg ∨ gg = w2.heap.size + 1) :
    w7.cell? ⟨xb, 0, none⟩ = some v ∧ w7.frozen? ⟨xb, 0, none⟩ = false ∧ Below lo w (w7.setCell ⟨xb, 0, none⟩ (.slice (some ⟨gg, 0, none⟩) (bs.length + 1) cap)) ∧
      LsNew (w7.setCell ⟨xb, 0, none⟩ (.slice (some ⟨gg, 0, none⟩) (bs.length + 1) cap)) xb (.slice (some ⟨gg, 0, none⟩) (bs.length + 1) cap) (bs ++ [mb]) (l ++ [m]) lo := by
  have hs7 : w2.heap.size + 1 ≤ w7.heap.size := by simpa using hgr.size
  have hml := hm.lt
  have hxl := hL.lt
  have e7 : ∀ k, k < w2.heap.size → v.ownBlock ≠ some k → w7.heap[k]? = w2.heap[k]? := fun k hk hn => (hgr.block k (by simp; omega) (fun e => hn e.symm)).trans (Below.heap_alloc _ _ _ hk)
  have c7 := (World.cell?_of_block (w := w2) (w' := w7) (a := ⟨xb, 0, none⟩) (e7 xb hxl hL.ne3)).trans hL.cell
  have f7 := (World.frozen?_of_block (w := w2) (w' := w7) (a := ⟨xb, 0, none⟩) (e7 xb hxl hL.ne3)).trans hL.free
  have hz : (w7.setCell ⟨xb, 0, none⟩ (.slice (some ⟨gg, 0, none⟩) (bs.length + 1) cap)).heap.size = w7.heap.size := by simp [World.setCell]
  have hb7 : Below lo w w7 := (hb.trans ((Below.refl _ _).alloc hlo o)).grown hgr (by simp; omega) (fun k hk => (hL.own.lt k hk).1)
  have hgm : ∀ b, b ≤ mb → b ∈ bs ∨ b = mb ∨ b = xb → gg ≠ b := fun b hbm hmem e => by
    rcases hat with h | h
    · rcases hmem with h1 | h1 | h1
      · exact hL.ne2 b h1 (by rw [h, e])
      · have := hvm gg h; omega
      · exact hL.ne3 (by rw [h, e, h1])
    · omega
  have hvmb : v.ownBlock ≠ some mb := fun e => by have := hvm mb e; omega
  have hmem : ∀ b, b ∈ bs ++ [mb] → b ∈ bs ∨ b = mb := fun b h => by simpa using h
  have hset : ∀ b, b ≠ xb → b < w2.heap.size → v.ownBlock ≠ some b → (w7.setCell ⟨xb, 0, none⟩ (.slice (some ⟨gg, 0, none⟩) (bs.length + 1) cap)).heap[b]? = w2.heap[b]? := fun b h1 h2 h3 => (setCell_block_ne _ _ _ _ (by show b ≠ xb; exact h1)).trans (e7 b h2 h3)
  refine ⟨c7, f7, hb7.setCell (p := ⟨xb, 0, none⟩) hL.lo1 _, ?_⟩
  refine ⟨cell?_setCell_at c7, by simpa using f7, ?_, by simp [hL.len], ?_, hL.lo1, fun b h => (hmem b h).elim (hL.lo2 b) (fun e => e ▸ hlm), fun b h => (hmem b h).elim (hL.ne1 b) (fun e => by omega), fun b h => ?_, ?_, ?_, by rw [hz]; omega⟩
  · have hno : (Value.slice (some ⟨gg, 0, none⟩) (bs.length + 1) cap).ownBlock ≠ some xb := fun e => by
      have e' : gg = xb := by injection e
      exact hgm xb (by omega) (.inr (.inr rfl)) e'
    have := hown.kept (row := some xb) (w' := w7.setCell ⟨xb, 0, none⟩ (.slice (some ⟨gg, 0, none⟩) (bs.length + 1) cap)) ⟨rfl, rfl, rfl, by simp [World.setCell], fun i _ hn => setCell_block_ne _ _ _ _ (by show i ≠ xb; exact fun e => hn (by rw [e]))⟩ (.inr hno)
    rw [show (bs ++ [mb]).length = bs.length + 1 from by simp, show ptrsOf (bs ++ [mb]) = ptrsOf bs ++ [.pointer (some ⟨mb, 0, none⟩)] from by simp [ptrsOf]]
    exact this
  · intro i b x h1 h2
    by_cases hi : i < bs.length
    · rw [List.getElem?_append_left hi] at h1
      rw [List.getElem?_append_left (by rw [← hL.len]; exact hi)] at h2
      have hbm := List.mem_of_getElem? h1
      obtain ⟨s, hs⟩ := hL.mt i b x h1 h2
      exact ⟨s, hs.like (hset b (hL.ne1 b hbm) hs.lt (hL.ne2 b hbm)) (by rw [hz]; omega)⟩
    · have hil := (List.getElem?_eq_some_iff.1 h1).1
      rw [List.length_append, List.length_singleton] at hil
      obtain rfl : i = bs.length := by omega
      rw [List.getElem?_append_right (Nat.le_refl _)] at h1
      rw [hL.len, List.getElem?_append_right (Nat.le_refl _)] at h2
      simp at h1 h2
      subst h1 h2
      exact ⟨says, hm.like (hset _ (by omega) hml hvmb) (by rw [hz]; omega)⟩
  · intro e
    have e' : gg = b := by injection e
    refine hgm b ?_ ?_ e'
    · exact (hmem b h).elim (fun h1 => by have := hmb b h1; omega) (fun e => by omega)
    · exact (hmem b h).elim .inl (fun e => .inr (.inl e))
  · intro e
    have e' : gg = xb := by injection e
    exact hgm xb (by omega) (.inr (.inr rfl)) e'
  · rw [List.nodup_append]
    refine ⟨hL.nd, by simp, fun a ha b hb e => ?_⟩
    simp at hb
    have := hmb a ha
    omega

set_option maxRecDepth 100000 in
set_option maxHeartbeats 8000000 in
theorem compile_g (w : World) (b off c : Nat) (l : List Mat) (hT : Lib.Utf8Tabs 0 1 w) (h2 : 2 ≤ w.heap.size) (hl : MatAt w b off l) (hlt : b < w.heap.size) (hln : l.length ≤ 16) (hok : ∀ x, x ∈ l → x.Good) :
    Calls Tryz.prog 44 #[.slice (some ⟨b, off, none⟩) l.length c] w (fun e w' => ∃ xb v bs, e = .returned (.tuple #[.pointer (some ⟨xb, 0, none⟩), .int .i64 0, .int .i64 0]) ∧ Below w.heap.size w w' ∧ LsNew w' xb v bs l w.heap.size) := by
  have HL := Lib.hid hl
  have HR := Lib.hid (rights_g w b off c l hT h2 hl hlt hln hok)
  clear hl hok hT
  go_enter Tryz.func44, Tryz.ntmps44
  go_wp2_with fail
  refine HR.out.mono ?_
  rintro e w1 ⟨rfl, hb1⟩
  have HB1 := Lib.hid hb1
  have hz1 := hb1.size
  have HW : Hid (∀ W, W = w1.alloc (.cells #[.slice none 0 0] 130) → Below w.heap.size w W ∧ W.heap.size = w1.heap.size + 1 ∧ LsNew W w1.heap.size (.slice none 0 0) [] [] w.heap.size) := by
    rintro W rfl
    refine ⟨HB1.out.trans ((Below.refl _ _).alloc hz1 _), by simp, ⟨by simp, by simp, World.ownsRow_nil _ _ _ _, rfl, fun i b m h => by simp at h, hz1, by simp, by simp, by simp, by simp [Value.ownBlock], by simp, by simp⟩⟩
  clear hb1 HR
  go_wp2_with fail
  generalize hWe : w1.alloc (.cells #[.slice none 0 0] 130) = W at *
  obtain ⟨hbW, hszW, hLW⟩ := HW.out W rfl
  clear HW hWe
  have HBW := Lib.hid hbW
  have HLW := Lib.hid hLW
  clear hbW hLW
  generalize hxb : w1.heap.size = xb at *
  clear hxb HB1
  obtain ⟨i0, hi0, hz0, hz1', hz2'⟩ := info_parts infoPtrG
  go_loopg [23] l.length (fun g i wr => ∃ k v bs, k + g = l.length ∧ i = .int .i64 k ∧ bs.length = k ∧ Below w.heap.size w wr ∧ xb < wr.heap.size ∧ LsNew wr xb v bs (l.take k) w.heap.size)
  case atStart => exact ⟨0, _, [], by omega, rfl, rfl, HBW.out, by omega, by simpa using HLW.out⟩
  case round =>
    obtain ⟨k, v0, bs, hkg, rfl, hbk, hb, hxw, hls⟩ := hrel
    have HB := Lib.hid hb
    have HLS := Lib.hid hls
    have HBK := Lib.hid hbk
    have hsz := hb.size
    have hv0 := slice_oneG hls.own
    have d0 := hls.cell
    have df := hls.free
    clear hb hls hbk
    by_cases hlt2 : k < l.length
    · obtain ⟨x, hx⟩ : ∃ x, l[k]? = some x := ⟨_, List.getElem?_eq_getElem hlt2⟩
      have ⟨c1, c2, c3⟩ := HL.out.below HB.out hlt k x hx
      have htk : l.take (k + 1) = l.take k ++ [x] := by
        rw [List.take_add_one, hx]; rfl
      have HTK := Lib.hid htk
      have hw1 : IntKind.i64.wrap ((k : Int) + 1) = (k : Int) + 1 := by rw [IntKind.wrap_i64] <;> omega
      have hbn : ¬ b = wr.heap.size := by omega
      obtain ⟨op, n, v⟩ := x
      simp only at c1 c2 c3
      clear hx htk
      go_wp2_with fail
      refine wp_region_any (by kernel_rfl) ?_
      change wpAny _ _ _ _ _ _ _ (World.drew _)
      have HD : Hid (∀ WD, WD = (wr.alloc (.cells #[.int .i64 op, .string n, .string v] 71)).drew → Below w.heap.size w WD ∧ WD.heap.size = wr.heap.size + 1 ∧ LsNew WD xb v0 bs (l.take k) w.heap.size ∧ WD.cell? ⟨wr.heap.size, 0, none⟩ = some (.int .i64 op) ∧ WD.cell? ⟨wr.heap.size, 1, none⟩ = some (.string n) ∧ WD.cell? ⟨wr.heap.size, 2, none⟩ = some (.string v)) := by
        rintro WD rfl
        have hA : Below wr.heap.size wr (wr.alloc (.cells #[.int .i64 op, .string n, .string v] 71)).drew := ((Below.refl _ _).alloc (Nat.le_refl _) _).drew
        exact ⟨HB.out.trans (hA.mono (by omega)), by simp, HLS.out.below hA, by simp, by simp, by simp⟩
      generalize hDe : (wr.alloc (.cells #[.int .i64 op, .string n, .string v] 71)).drew = WD
      obtain ⟨hbD, hszD, hLD, q0, q1, q2⟩ := HD.out WD hDe.symm
      have HBD := Lib.hid hbD
      have HLD := Lib.hid hLD
      have x0 := hLD.cell
      have x0f := hLD.free
      have hwD : w.heap.size ≤ WD.heap.size := hbD.size
      clear HD hDe hbD hLD d0 df c1 c2 c3
      refine wpAny_take (i := 0) (v := .pointer (some ⟨xb, 0, none⟩)) rfl (by kernel_rfl) (by kernel_rfl) (by kernel_rfl) (fun _ _ _ h => h) (Or.inl ⟨by rfl, by intro w; go_simp⟩) ?_
      refine wpAny_take (i := 1) (v := .pointer (some ⟨xb, 0, none⟩)) rfl (by kernel_rfl) (by kernel_rfl) (by kernel_rfl) (fun _ _ _ h => h) (Or.inl ⟨by rfl, by intro w; go_simp⟩) ?_
      refine wpAny_take (i := 2) (v := .pointer (some ⟨xb, 0, none⟩)) rfl (by kernel_rfl) (by kernel_rfl) (by kernel_rfl) (fun _ _ _ h => h) (Or.inl ⟨by rfl, by intro w; go_simp⟩) ?_
      refine wpAny_take (i := 3) (v := .pointer (some ⟨xb, 0, none⟩)) rfl (by kernel_rfl) (by kernel_rfl) (by kernel_rfl) (fun _ _ _ h => h) (Or.inl ⟨by rfl, by intro w; go_simp⟩) ?_
      refine wpAny_ready (rs := [4, 5]) (by kernel_rfl) (by simp) ?_
      refine AllReady.cons rfl (fun Kk hKk => ?_) (AllReady.cons rfl (fun Kk hKk => ?_) AllReady.nil)
      · skip
        go_simp
        refine hKk _ _ ?_
        clear hKk Kk
        refine wpAny_ready (rs := [5]) (by kernel_rfl) (by simp) ?_
        refine AllReady.cons rfl (fun Kk hKk => ?_) AllReady.nil
        go_simp
        refine hKk _ _ ?_
        clear hKk Kk
        refine wpAny_ready (rs := [6]) (by kernel_rfl) (by simp) ?_
        refine AllReady.cons rfl (fun Kk hKk => ?_) AllReady.nil
        go_simp
        refine (new_any _ op n v).mono ?_
        rintro e w2 ⟨mb, rfl, hmb, hb2, says, hmt⟩
        have HB2 := Lib.hid (HBD.out.trans (hb2.mono hwD))
        have HL2 := Lib.hid (HLD.out.below hb2)
        have HMT := Lib.hid hmt
        have hz2 := hb2.size
        have x2 := HL2.out.cell
        have x2f := HL2.out.free
        have x3 : (w2.alloc (.cells #[.pointer (some ⟨mb, 0, none⟩)] 131)).cell? ⟨xb, 0, none⟩ = some v0 := (World.cell?_alloc_past _ _ _ (by show xb < w2.heap.size; omega)).trans x2
        clear hb2 hmt
        refine hKk _ _ ?_
        clear hKk Kk
        refine wpAny_ready (rs := [7]) (by kernel_rfl) (by simp) ?_
        refine AllReady.cons rfl (fun Kk hKk => ?_) AllReady.nil
        go_simp
        refine hKk _ _ ?_
        clear hKk Kk
        refine wpAny_ready (rs := [8]) (by kernel_rfl) (by simp) ?_
        refine AllReady.cons rfl (fun Kk hKk => ?_) AllReady.nil
        refine step_append_lies _ (by rfl) _ _ _ (by rfl) w.heap.size 131 i0 _ 1 8 Tryz.underlying128 hi0 hz0 hz1' hz2' rfl (by omega) v0 bs.length (ptrsOf bs) (by rfl) (HL2.out.own.alloc _) ⟨w2.heap.size, 0, none⟩ 1 1 [.pointer (some ⟨mb, 0, none⟩)] (by rfl) (by rfl) (World.news_of_block (cs := #[.pointer (some ⟨mb, 0, none⟩)]) (t := 131) (fr := (0, 0)) (heap_alloc_new w2 _)) (by intro u hu; rw [List.mem_singleton.1 hu]; rfl) (by omega) (by have := HBK.out; unfold maxLen; omega) (by have := HBK.out; omega) (by simp; omega) (w2.heap.size + 1) (by simp) ?_
        intro gg cap' w7 hown7 hgrow hat hlt7
        have HE := Lib.hid (compg_end (m := ⟨op, n, v⟩) HB2.out (by omega) HL2.out HMT.out (fun a ha => Nat.lt_of_lt_of_le (HLD.out.mem_lt a ha) hmb) (by omega) (fun g hg => Nat.lt_of_lt_of_le (HLD.out.own.lt g hg).2 hmb) (by omega) hgrow hown7 hat)
        have y7 := HE.out.1
        have f7 := HE.out.2.1
        clear hown7 hgrow hat
        refine hKk _ _ ?_
        clear hKk Kk
        refine wpAny_ready (rs := [9]) (by kernel_rfl) (by simp) ?_
        refine AllReady.cons rfl (fun Kk hKk => ?_) AllReady.nil
        go_simp
        refine hKk _ _ ?_
        clear hKk Kk
        refine wpAny_ready (rs := [10]) (by kernel_rfl) (by simp) ?_
        refine AllReady.cons rfl (fun Kk hKk => ?_) AllReady.nil
        go_simp
        refine hKk _ _ ?_
        clear hKk Kk
        refine wpAny_ready (rs := [11]) (by kernel_rfl) (by simp) ?_
        refine AllReady.cons rfl (fun Kk hKk => ?_) AllReady.nil
        go_simp
        refine hKk _ _ ?_
        clear hKk Kk
        refine wpAny_done (by kernel_rfl) ?_ _
        go_wp2_with fail
        go_roundg (gk - 1)
        case measure => omega
        case rel => exact ⟨k + 1, _, bs ++ [mb], by omega, by simp, by rw [List.length_append, HBK.out]; rfl, HE.out.2.2.1, HE.out.2.2.2.lt, by rw [HTK.out]; exact HE.out.2.2.2⟩
      · skip
        go_simp
        refine hKk _ _ ?_
        clear hKk Kk
        refine wpAny_ready (rs := [4, 6]) (by kernel_rfl) (by simp) ?_
        refine AllReady.cons rfl (fun Kk hKk => ?_) (AllReady.cons rfl (fun Kk hKk => ?_) AllReady.nil)
        · skip
          go_simp
          refine hKk _ _ ?_
          clear hKk Kk
          refine wpAny_ready (rs := [6]) (by kernel_rfl) (by simp) ?_
          refine AllReady.cons rfl (fun Kk hKk => ?_) AllReady.nil
          go_simp
          refine (new_any _ op n v).mono ?_
          rintro e w2 ⟨mb, rfl, hmb, hb2, says, hmt⟩
          have HB2 := Lib.hid (HBD.out.trans (hb2.mono hwD))
          have HL2 := Lib.hid (HLD.out.below hb2)
          have HMT := Lib.hid hmt
          have hz2 := hb2.size
          have x2 := HL2.out.cell
          have x2f := HL2.out.free
          have x3 : (w2.alloc (.cells #[.pointer (some ⟨mb, 0, none⟩)] 131)).cell? ⟨xb, 0, none⟩ = some v0 := (World.cell?_alloc_past _ _ _ (by show xb < w2.heap.size; omega)).trans x2
          clear hb2 hmt
          refine hKk _ _ ?_
          clear hKk Kk
          refine wpAny_ready (rs := [7]) (by kernel_rfl) (by simp) ?_
          refine AllReady.cons rfl (fun Kk hKk => ?_) AllReady.nil
          go_simp
          refine hKk _ _ ?_
          clear hKk Kk
          refine wpAny_ready (rs := [8]) (by kernel_rfl) (by simp) ?_
          refine AllReady.cons rfl (fun Kk hKk => ?_) AllReady.nil
          refine step_append_lies _ (by rfl) _ _ _ (by rfl) w.heap.size 131 i0 _ 1 8 Tryz.underlying128 hi0 hz0 hz1' hz2' rfl (by omega) v0 bs.length (ptrsOf bs) (by rfl) (HL2.out.own.alloc _) ⟨w2.heap.size, 0, none⟩ 1 1 [.pointer (some ⟨mb, 0, none⟩)] (by rfl) (by rfl) (World.news_of_block (cs := #[.pointer (some ⟨mb, 0, none⟩)]) (t := 131) (fr := (0, 0)) (heap_alloc_new w2 _)) (by intro u hu; rw [List.mem_singleton.1 hu]; rfl) (by omega) (by have := HBK.out; unfold maxLen; omega) (by have := HBK.out; omega) (by simp; omega) (w2.heap.size + 1) (by simp) ?_
          intro gg cap' w7 hown7 hgrow hat hlt7
          have HE := Lib.hid (compg_end (m := ⟨op, n, v⟩) HB2.out (by omega) HL2.out HMT.out (fun a ha => Nat.lt_of_lt_of_le (HLD.out.mem_lt a ha) hmb) (by omega) (fun g hg => Nat.lt_of_lt_of_le (HLD.out.own.lt g hg).2 hmb) (by omega) hgrow hown7 hat)
          have y7 := HE.out.1
          have f7 := HE.out.2.1
          clear hown7 hgrow hat
          refine hKk _ _ ?_
          clear hKk Kk
          refine wpAny_ready (rs := [9]) (by kernel_rfl) (by simp) ?_
          refine AllReady.cons rfl (fun Kk hKk => ?_) AllReady.nil
          go_simp
          refine hKk _ _ ?_
          clear hKk Kk
          refine wpAny_ready (rs := [10]) (by kernel_rfl) (by simp) ?_
          refine AllReady.cons rfl (fun Kk hKk => ?_) AllReady.nil
          go_simp
          refine hKk _ _ ?_
          clear hKk Kk
          refine wpAny_ready (rs := [11]) (by kernel_rfl) (by simp) ?_
          refine AllReady.cons rfl (fun Kk hKk => ?_) AllReady.nil
          go_simp
          refine hKk _ _ ?_
          clear hKk Kk
          refine wpAny_done (by kernel_rfl) ?_ _
          go_wp2_with fail
          go_roundg (gk - 1)
          case measure => omega
          case rel => exact ⟨k + 1, _, bs ++ [mb], by omega, by simp, by rw [List.length_append, HBK.out]; rfl, HE.out.2.2.1, HE.out.2.2.2.lt, by rw [HTK.out]; exact HE.out.2.2.2⟩
        · skip
          go_simp
          refine (new_any _ op n v).mono ?_
          rintro e w2 ⟨mb, rfl, hmb, hb2, says, hmt⟩
          have HB2 := Lib.hid (HBD.out.trans (hb2.mono hwD))
          have HL2 := Lib.hid (HLD.out.below hb2)
          have HMT := Lib.hid hmt
          have hz2 := hb2.size
          have x2 := HL2.out.cell
          have x2f := HL2.out.free
          have x3 : (w2.alloc (.cells #[.pointer (some ⟨mb, 0, none⟩)] 131)).cell? ⟨xb, 0, none⟩ = some v0 := (World.cell?_alloc_past _ _ _ (by show xb < w2.heap.size; omega)).trans x2
          clear hb2 hmt
          refine hKk _ _ ?_
          clear hKk Kk
          refine wpAny_ready (rs := [4, 7]) (by kernel_rfl) (by simp) ?_
          refine AllReady.cons rfl (fun Kk hKk => ?_) (AllReady.cons rfl (fun Kk hKk => ?_) AllReady.nil)
          · skip
            go_simp
            refine hKk _ _ ?_
            clear hKk Kk
            refine wpAny_ready (rs := [7]) (by kernel_rfl) (by simp) ?_
            refine AllReady.cons rfl (fun Kk hKk => ?_) AllReady.nil
            go_simp
            refine hKk _ _ ?_
            clear hKk Kk
            refine wpAny_ready (rs := [8]) (by kernel_rfl) (by simp) ?_
            refine AllReady.cons rfl (fun Kk hKk => ?_) AllReady.nil
            refine step_append_lies _ (by rfl) _ _ _ (by rfl) w.heap.size 131 i0 _ 1 8 Tryz.underlying128 hi0 hz0 hz1' hz2' rfl (by omega) v0 bs.length (ptrsOf bs) (by rfl) (HL2.out.own.alloc _) ⟨w2.heap.size, 0, none⟩ 1 1 [.pointer (some ⟨mb, 0, none⟩)] (by rfl) (by rfl) (World.news_of_block (cs := #[.pointer (some ⟨mb, 0, none⟩)]) (t := 131) (fr := (0, 0)) (heap_alloc_new w2 _)) (by intro u hu; rw [List.mem_singleton.1 hu]; rfl) (by omega) (by have := HBK.out; unfold maxLen; omega) (by have := HBK.out; omega) (by simp; omega) (w2.heap.size + 1) (by simp) ?_
            intro gg cap' w7 hown7 hgrow hat hlt7
            have HE := Lib.hid (compg_end (m := ⟨op, n, v⟩) HB2.out (by omega) HL2.out HMT.out (fun a ha => Nat.lt_of_lt_of_le (HLD.out.mem_lt a ha) hmb) (by omega) (fun g hg => Nat.lt_of_lt_of_le (HLD.out.own.lt g hg).2 hmb) (by omega) hgrow hown7 hat)
            have y7 := HE.out.1
            have f7 := HE.out.2.1
            clear hown7 hgrow hat
            refine hKk _ _ ?_
            clear hKk Kk
            refine wpAny_ready (rs := [9]) (by kernel_rfl) (by simp) ?_
            refine AllReady.cons rfl (fun Kk hKk => ?_) AllReady.nil
            go_simp
            refine hKk _ _ ?_
            clear hKk Kk
            refine wpAny_ready (rs := [10]) (by kernel_rfl) (by simp) ?_
            refine AllReady.cons rfl (fun Kk hKk => ?_) AllReady.nil
            go_simp
            refine hKk _ _ ?_
            clear hKk Kk
            refine wpAny_ready (rs := [11]) (by kernel_rfl) (by simp) ?_
            refine AllReady.cons rfl (fun Kk hKk => ?_) AllReady.nil
            go_simp
            refine hKk _ _ ?_
            clear hKk Kk
            refine wpAny_done (by kernel_rfl) ?_ _
            go_wp2_with fail
            go_roundg (gk - 1)
            case measure => omega
            case rel => exact ⟨k + 1, _, bs ++ [mb], by omega, by simp, by rw [List.length_append, HBK.out]; rfl, HE.out.2.2.1, HE.out.2.2.2.lt, by rw [HTK.out]; exact HE.out.2.2.2⟩
          · skip
            go_simp
            refine hKk _ _ ?_
            clear hKk Kk
            refine wpAny_ready (rs := [4]) (by kernel_rfl) (by simp) ?_
            refine AllReady.cons rfl (fun Kk hKk => ?_) AllReady.nil
            go_simp
            refine hKk _ _ ?_
            clear hKk Kk
            refine wpAny_ready (rs := [8]) (by kernel_rfl) (by simp) ?_
            refine AllReady.cons rfl (fun Kk hKk => ?_) AllReady.nil
            refine step_append_lies _ (by rfl) _ _ _ (by rfl) w.heap.size 131 i0 _ 1 8 Tryz.underlying128 hi0 hz0 hz1' hz2' rfl (by omega) v0 bs.length (ptrsOf bs) (by rfl) (HL2.out.own.alloc _) ⟨w2.heap.size, 0, none⟩ 1 1 [.pointer (some ⟨mb, 0, none⟩)] (by rfl) (by rfl) (World.news_of_block (cs := #[.pointer (some ⟨mb, 0, none⟩)]) (t := 131) (fr := (0, 0)) (heap_alloc_new w2 _)) (by intro u hu; rw [List.mem_singleton.1 hu]; rfl) (by omega) (by have := HBK.out; unfold maxLen; omega) (by have := HBK.out; omega) (by simp; omega) (w2.heap.size + 1) (by simp) ?_
            intro gg cap' w7 hown7 hgrow hat hlt7
            have HE := Lib.hid (compg_end (m := ⟨op, n, v⟩) HB2.out (by omega) HL2.out HMT.out (fun a ha => Nat.lt_of_lt_of_le (HLD.out.mem_lt a ha) hmb) (by omega) (fun g hg => Nat.lt_of_lt_of_le (HLD.out.own.lt g hg).2 hmb) (by omega) hgrow hown7 hat)
            have y7 := HE.out.1
            have f7 := HE.out.2.1
            clear hown7 hgrow hat
            refine hKk _ _ ?_
            clear hKk Kk
            refine wpAny_ready (rs := [9]) (by kernel_rfl) (by simp) ?_
            refine AllReady.cons rfl (fun Kk hKk => ?_) AllReady.nil
            go_simp
            refine hKk _ _ ?_
            clear hKk Kk
            refine wpAny_ready (rs := [10]) (by kernel_rfl) (by simp) ?_
            refine AllReady.cons rfl (fun Kk hKk => ?_) AllReady.nil
            go_simp
            refine hKk _ _ ?_
            clear hKk Kk
            refine wpAny_ready (rs := [11]) (by kernel_rfl) (by simp) ?_
            refine AllReady.cons rfl (fun Kk hKk => ?_) AllReady.nil
            go_simp
            refine hKk _ _ ?_
            clear hKk Kk
            refine wpAny_done (by kernel_rfl) ?_ _
            go_wp2_with fail
            go_roundg (gk - 1)
            case measure => omega
            case rel => exact ⟨k + 1, _, bs ++ [mb], by omega, by simp, by rw [List.length_append, HBK.out]; rfl, HE.out.2.2.1, HE.out.2.2.2.lt, by rw [HTK.out]; exact HE.out.2.2.2⟩
    · obtain rfl : gk = 0 := by omega
      have htk : l.take k = l := List.take_of_length_le (by omega)
      rw [htk] at HLS
      go_wp2_with fail
      go_ret3
      exact ⟨xb, v0, bs, rfl, HB.out, HLS.out⟩

end Go.Proofs.YteemciknbiloiaaGreatDoor.Ih
