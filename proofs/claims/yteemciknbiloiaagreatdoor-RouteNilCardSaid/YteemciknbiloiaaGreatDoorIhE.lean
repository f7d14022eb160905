/- Walks over layer 6's matcher: make, once. -/
import Derived.Test.YteemciknbiloiaaGreatDoorIhD
namespace Go.Proofs.YteemciknbiloiaaGreatDoor.Ih
open Go.RowKit

set_option maxRecDepth 100000 in
set_option maxHeartbeats 2000000 in
theorem make_eq (w : World) (b : Nat) (op : Int) (n v : ByteArray) (dn st why : Int) (says : Value) (hT : Lib.Utf8Tabs 0 1 w) (h : MtAt w b op n v dn st why says) (hm : MOk op n v) :
    Calls Tryz.prog 84 #[.pointer (some ⟨b, 0, none⟩)] w (fun e w' => e = .returned (.tuple #[]) ∧ But b w w' ∧ ∃ f, MtAt w' b op n v dn st 0 f ∧ Says w' f op v w.heap.size b) := by
  have HM := Lib.hid hm
  have HT := Lib.hid hT
  have H := Lib.hid h
  obtain ⟨hlt, c0, c1, c2, _, _, c6, c7, fz⟩ := h
  have hW : Hid (∀ W, W = w.alloc (.cells #[.int .i64 op, .string n, .string v] 71) → Below w.heap.size w W ∧ W.heap.size = w.heap.size + 1 ∧ W.cell? ⟨w.heap.size, 0, none⟩ = some (.int .i64 op) ∧ W.cell? ⟨w.heap.size, 1, none⟩ = some (.string n) ∧ W.cell? ⟨w.heap.size, 2, none⟩ = some (.string v)) := by
    rintro W rfl
    exact ⟨(Below.refl _ _).alloc (Nat.le_refl _) _, by simp, by simp, by simp, by simp⟩
  clear hm hT fz c6 c7
  go_enter Tryz.func84, Tryz.ntmps84
  go_wp2_with fail
  generalize hWe : w.alloc (.cells #[.int .i64 op, .string n, .string v] 71) = W at *
  obtain ⟨hbW, hszW, d0, d1, d2⟩ := hW.out W rfl
  clear hW hWe c0 c1 c2
  have HBW := Lib.hid hbW
  clear hbW
  refine (wrong_ok W op n v (Utf8Tabs_below HT.out HBW.out) HM.out).mono ?_
  rintro e w2 ⟨rfl, hb2⟩
  have HB2 := Lib.hid (HBW.out.trans (hb2.mono (by omega)))
  have e0 : w2.cell? ⟨w.heap.size, 0, none⟩ = some (.int .i64 op) := (hb2.cell (p := ⟨w.heap.size, 0, none⟩) (by show w.heap.size < W.heap.size; omega)).trans d0
  have e2 : w2.cell? ⟨w.heap.size, 2, none⟩ = some (.string v) := (hb2.cell (p := ⟨w.heap.size, 2, none⟩) (by show w.heap.size < W.heap.size; omega)).trans d2
  have hsz2 := hb2.size
  have h22 := H.out.like (HB2.out.block b hlt) HB2.out.size
  clear hb2 d0 d1 d2
  have k6 := h22.c6
  have kz := h22.fz 6
  have hn1 : ¬ b = w.heap.size := by omega
  have hn2 : ¬ w.heap.size = w2.heap.size := by omega
  have hn3 : ¬ b = w2.heap.size := by omega
  have hop : op = 1 ∨ op = 2 := by have := HM.out.op1; have := HM.out.op2; omega
  have H22 := Lib.hid h22
  have k7 := h22.c7
  have kz7 := h22.fz 7
  clear h22
  have hW4 : Hid (∀ W4 f, W4 = ((w2.setCell ⟨b, 6, none⟩ (.int .i64 0)).alloc (.cells #[.bool (op == 2)] 4)).setCell ⟨b, 7, none⟩ f → f = .func (.func 92) #[] #[.pointer (some ⟨w.heap.size, 0, none⟩), .pointer (some ⟨w2.heap.size, 0, none⟩)] → But b w W4 ∧ ∃ f, MtAt W4 b op n v dn st 0 f ∧ Says W4 f op v w.heap.size b) := by
    rintro W4 f rfl hf
    have hs : (w2.setCell ⟨b, 6, none⟩ (.int .i64 0)).heap.size = w2.heap.size := by simp [World.setCell]
    have hz : ((((w2.setCell ⟨b, 6, none⟩ (.int .i64 0)).alloc (.cells #[.bool (op == 2)] 4)).setCell ⟨b, 7, none⟩ f)).heap.size = w2.heap.size + 1 := by simp [World.setCell]
    refine ⟨(((But.of HB2.out).set 6 _).alloc _).set 7 _, f, ((H22.out.set6 0).alloc _).set7 f, _, _, hf, Nat.le_refl _, by omega, by omega, by omega, by rw [hz]; omega, by rw [hz]; omega, ?_, ?_⟩
    · refine (World.cell?_setCell_other _ ⟨b, 7, none⟩ ⟨w.heap.size, 2, none⟩ _ (fun e => by injection e; omega)).trans ?_
      rw [World.cell?_alloc_past _ _ _ (by rw [hs]; show w.heap.size < w2.heap.size; omega)]
      exact (World.cell?_setCell_other _ ⟨b, 6, none⟩ ⟨w.heap.size, 2, none⟩ _ (fun e => by injection e; omega)).trans e2
    · refine (World.cell?_setCell_other _ ⟨b, 7, none⟩ ⟨w2.heap.size, 0, none⟩ _ (fun e => by injection e; omega)).trans ?_
      have gen : ∀ (X : World) (x : Value) (t : TypeId), (X.alloc (.cells #[x] t)).cell? ⟨X.heap.size, 0, none⟩ = some x := fun X x t => by simp
      have := gen (w2.setCell ⟨b, 6, none⟩ (.int .i64 0)) (.bool (op == 2)) 4
      rwa [hs] at this
  have hq : ∀ o, ((w2.setCell ⟨b, 6, none⟩ (.int .i64 0)).alloc o).cell? ⟨w.heap.size, 0, none⟩ = some (.int .i64 op) ∧ ((w2.setCell ⟨b, 6, none⟩ (.int .i64 0)).alloc o).cell? ⟨b, 7, none⟩ = some says ∧ ((w2.setCell ⟨b, 6, none⟩ (.int .i64 0)).alloc o).frozen? ⟨b, 7, none⟩ = false := fun o => by
    refine ⟨?_, ((H22.out.set6 0).alloc o).c7, ((H22.out.set6 0).alloc o).fz 7⟩
    rw [World.cell?_alloc_past _ _ _ (by simp [World.setCell]; omega)]
    exact (World.cell?_setCell_other _ ⟨b, 6, none⟩ ⟨w.heap.size, 0, none⟩ _ (fun e => by injection e; omega)).trans e0
  clear k7 kz7
  have HQ := Lib.hid hq
  clear hq
  rcases hop with rfl | rfl
  · have ⟨q1, q2, q3⟩ := HQ.out (.cells #[.bool false] 4)
    go_wp2_with fail
    refine bodyPost_ret (results_none rfl _ _ _) rfl ?_
    exact ⟨rfl, hW4.out _ _ rfl rfl⟩
  · have ⟨q1, q2, q3⟩ := HQ.out (.cells #[.bool true] 4)
    go_wp2_with fail
    refine bodyPost_ret (results_none rfl _ _ _) rfl ?_
    exact ⟨rfl, hW4.out _ _ rfl rfl⟩

end Go.Proofs.YteemciknbiloiaaGreatDoor.Ih
