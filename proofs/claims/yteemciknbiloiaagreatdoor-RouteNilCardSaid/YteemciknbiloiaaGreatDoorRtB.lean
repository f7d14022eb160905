/- Walks over strings.Replacer, used once; layer 4's quoted. -/
import Derived.Test.YteemciknbiloiaaGreatDoorRtA
import Derived.Lib.LazyBuf
namespace Go.Proofs.YteemciknbiloiaaGreatDoor.Ih
open Go.RowKit

attribute [local go_sem] run_store_one

set_option maxRecDepth 100000 in
set_option maxHeartbeats 1000000 in
theorem bsr_a (w : World) (m : Nat) (h : BsrAt w m) :
    Calls Tryz.prog 175 #[.pointer (some ⟨m, 0, none⟩), .string ⟨#[97]⟩] w (fun e w' => e = .returned (.string ⟨#[97]⟩) ∧ w' = w) := by
  obtain ⟨hlt, ⟨g, c, ht⟩, hn⟩ := h
  have h97 := hn 97 (by decide) (by decide) (by decide) (by decide)
  clear hn
  have hnil : ∀ (w : World) (a : Option Addr) (n c : Nat), Sem.run Tryz.prog (binOp .neq 80 (.slice a n c) (.slice none 0 0)) w = .ok (.bool (!a.isNone)) w := fun w a n c => run_neq_slice_nil w _ _ a n c Tryz.underlying80
  have k97 : ∀ h, ((⟨#[97]⟩ : ByteArray)[0]'h).toNat = 97 := fun _ => rfl
  go_enter Tryz.func175, Tryz.ntmps175
  go_wp2_with fail
  refine wp_loop_rounds 2 ?_
  rw [rounds_succ]
  go_wp2_with fail
  rw [rounds_succ]
  go_wp2_with fail
  go_ret
  exact ⟨rfl, rfl⟩

/-- What a Replacer is when it has been built. -/
def RepBuilt (w : World) (r : Nat) (dn st : Int) : Prop := ∃ m, m ≠ r ∧ RepAt w r dn st (.iface 162 (.pointer (some ⟨m, 0, none⟩))) (.slice none 0 0) ∧ BsrAt w m

set_option maxRecDepth 100000 in
theorem buildOnce_any (w : World) (r g c B : Nat) (st : Int) (h : RepAt w r 0 st .nilIface (.slice (some ⟨g, 0, none⟩) 6 c)) (hs : SixAt w g) (hB : B ≤ r) :
    Calls Tryz.prog 51 #[.pointer (some ⟨r, 0, none⟩)] w (fun e w' => e = .returned (.tuple #[]) ∧ Below B w w' ∧ RepBuilt w' r 0 st) := by
  have HC := Lib.hid (build_any w r g c .nilIface st h hs)
  have H := Lib.hid h
  have hlt := h.lt
  clear h hs
  go_enter Tryz.func51, Tryz.ntmps51
  go_wp2_with fail
  refine HC.out.mono ?_
  rintro e w1 ⟨m, rfl, hb, hm, hbs⟩
  have HB := Lib.hid hb
  have HM := Lib.hid hbs
  have h1 : RepAt w1 r 0 st .nilIface (.slice (some ⟨g, 0, none⟩) 6 c) := H.out.like (hb.block r hlt) hb.size
  have H1 := Lib.hid h1
  have h2 := h1.set3 (.iface 162 (.pointer (some ⟨m, 0, none⟩)))
  have H2 := Lib.hid h2
  have c3 := h1.c3
  have f3 := h1.fz 3
  have c4 := h2.c4
  have f4 := h2.fz 4
  clear HC H hb hbs h1 h2
  go_wp2_with fail
  go_end0
  refine ⟨rfl, (((HB.out.mono (by omega)).setCell (p := ⟨r, 3, none⟩) hB _).setCell (p := ⟨r, 4, none⟩) hB _), m, by omega, H2.out.set4 _, HM.out.like ?_ (by simp [World.setCell])⟩
  exact (Below.heap_setCell _ _ _ _ (by show m ≠ r; omega)).trans (Below.heap_setCell _ _ _ _ (by show m ≠ r; omega))

theorem RepBuilt.set0 {w : World} {r : Nat} {dn st : Int} (h : RepBuilt w r dn st) (x : Int) : RepBuilt (w.setCell ⟨r, 0, none⟩ (.int .u32 x)) r x st := by
  obtain ⟨m, hm, h1, h2⟩ := h
  exact ⟨m, hm, h1.set0 x, h2.like (Below.heap_setCell _ _ _ _ (by show m ≠ r; omega)) (by simp [World.setCell])⟩
theorem RepBuilt.set1 {w : World} {r : Nat} {dn st : Int} (h : RepBuilt w r dn st) (x : Int) : RepBuilt (w.setCell ⟨r, 1, none⟩ (.int .i32 x)) r dn x := by
  obtain ⟨m, hm, h1, h2⟩ := h
  exact ⟨m, hm, h1.set1 x, h2.like (Below.heap_setCell _ _ _ _ (by show m ≠ r; omega)) (by simp [World.setCell])⟩
theorem RepBuilt.drew {w : World} {r : Nat} {dn st : Int} (h : RepBuilt w r dn st) : RepBuilt w.drew r dn st := by
  obtain ⟨m, hm, h1, h2⟩ := h
  exact ⟨m, hm, h1.drew, h2.like rfl (Nat.le_refl _)⟩

abbrev buildFn (r : Nat) : Value := .func (.func 51) #[.pointer (some ⟨r, 0, none⟩)] #[]

set_option maxRecDepth 100000 in
set_option maxHeartbeats 2000000 in
theorem slow_rep (w : World) (r g c B : Nat) (h : RepAt w r 0 0 .nilIface (.slice (some ⟨g, 0, none⟩) 6 c)) (hs : SixAt w g) (hgr : g ≠ r) (hB : B ≤ r) :
    Calls Tryz.prog 63 #[.pointer (some ⟨r, 0, none⟩), buildFn r] w (fun e w' => e = .returned (.tuple #[]) ∧ Below B w w' ∧ RepBuilt w' r 1 0) := by
  have h1 := h.set1 1
  have H1 := Lib.hid h1
  have c1 := h.c1
  have z1 := h.fz 1
  have d0 := h1.c0
  have HB1 : Hid (Below B w (w.setCell ⟨r, 1, none⟩ (.int .i32 1))) := (Below.refl B w).setCell (p := ⟨r, 1, none⟩) hB _
  have HS1 : Hid (SixAt (w.setCell ⟨r, 1, none⟩ (.int .i32 1)) g) := ⟨by simpa [World.setCell] using hs.1, fun j u hj => (World.cell?_of_block (w := w) (a := ⟨g, j, none⟩) (Below.heap_setCell _ _ _ _ (by show g ≠ r; exact hgr))).trans (hs.2 j u hj)⟩
  have hnot : ∀ (x : Bool) (w : World), (Op.unary .not (.bool x)).run Tryz.prog w = .ok (.bool (!x)) w := fun _ _ => rfl
  clear h h1 hs
  go_enter_defers Tryz.func63, Tryz.ntmps63
  go_wp2_with fail
  refine (lock_free ⟨r, 1, none⟩ w c1 z1).mono ?_
  rintro e w1 ⟨rfl, rfl⟩
  go_wp2_with fail
  refine (load_any ⟨r, 0, none⟩ 0 _ d0).mono ?_
  rintro e w1 ⟨rfl, rfl⟩
  generalize w.setCell ⟨r, 1, none⟩ (.int .i32 1) = W1 at *
  go_wp2_with fail
  refine (buildOnce_any W1 r g c B 1 H1.out HS1.out hB).mono ?_
  rintro e w2 ⟨rfl, hb2, h3⟩
  have HB2 := Lib.hid (HB1.out.trans hb2)
  have H3 := Lib.hid h3
  have hle : B ≤ w2.heap.size := by
    obtain ⟨m, _, hr, _⟩ := h3
    have := hr.lt
    omega
  clear hb2 h3 d0 c1 z1
  go_wp2_with fail
  obtain ⟨m, hm, hr2, hbs2⟩ := H3.out
  refine leaves_cons (f := 79) (args := #[.pointer (some ⟨r, 0, none⟩), .bool true]) (by simp) (by simp [go_sem]) ?_
  refine (store_deferred ⟨r, 0, none⟩ (.int .u32 0) .returning _ hr2.c0 (hr2.fz 0)).mono ?_
  rintro e u' w3 ⟨rfl, rfl, rfl⟩
  have h4 := H3.out.drew.set0 1
  have h4c := hr2.drew.set0 1
  refine leaves_cons (f := 78) (args := #[.pointer (some ⟨r, 1, none⟩)]) (by simp [settle]) (by simp [go_sem]) ?_
  refine (unlock_deferred ⟨r, 1, none⟩ _ _ h4c.c1 (h4c.fz 1)).mono ?_
  rintro e u' w4 ⟨rfl, rfl, rfl⟩
  have hfin := ((HB2.out.drew).setCell (p := ⟨r, 0, none⟩) hB (.int .u32 1)).setCell (p := ⟨r, 1, none⟩) hB (.int .i32 0)
  have h5 := h4.set1 0
  simp [Leaves, settle, results, Tryz.results63]
  exact ⟨hfin, h5⟩

set_option maxRecDepth 100000 in
theorem do_rep (w : World) (r g c B : Nat) (h : RepAt w r 0 0 .nilIface (.slice (some ⟨g, 0, none⟩) 6 c)) (hs : SixAt w g) (hgr : g ≠ r) (hB : B ≤ r) :
    Calls Tryz.prog 50 #[.pointer (some ⟨r, 0, none⟩), buildFn r] w (fun e w' => e = .returned (.tuple #[]) ∧ Below B w w' ∧ RepBuilt w' r 1 0) := by
  have c0 := h.c0
  have HC := Lib.hid (slow_rep w r g c B h hs hgr hB)
  have hnot : ∀ (x : Bool) (w : World), (Op.unary .not (.bool x)).run Tryz.prog w = .ok (.bool (!x)) w := fun _ _ => rfl
  clear h hs
  go_enter Tryz.func50, Tryz.ntmps50
  go_wp2_with fail
  refine (load_any ⟨r, 0, none⟩ 0 _ c0).mono ?_
  rintro e w1 ⟨rfl, rfl⟩
  go_wp2_with fail
  refine HC.out.mono ?_
  rintro e w2 ⟨rfl, hb⟩
  have HB := Lib.hid hb
  clear hb
  go_wp2_with fail
  go_end0
  exact ⟨rfl, HB.out⟩

set_option maxRecDepth 100000 in
theorem replace_a (w : World) (r g c B : Nat) (h : RepAt w r 0 0 .nilIface (.slice (some ⟨g, 0, none⟩) 6 c)) (hs : SixAt w g) (hgr : g ≠ r) (hB : B ≤ r) :
    Calls Tryz.prog 38 #[.pointer (some ⟨r, 0, none⟩), .string ⟨#[97]⟩] w (fun e w' => e = .returned (.string ⟨#[97]⟩) ∧ Below B w w') := by
  have HC := Lib.hid (do_rep w r g c B h hs hgr hB)
  have hmeth : ∀ (n : Nat) (a : Value) (w : World), Sem.run Tryz.prog (method (n + 1) 162 a "Replace") w = .ok (175, a) w := fun n a w => by kernel_rfl
  clear h hs
  go_enter Tryz.func38, Tryz.ntmps38
  go_wp2_with fail
  refine HC.out.mono ?_
  rintro e w1 ⟨rfl, hb, m, hm, hr, hbs⟩
  have HB := Lib.hid hb
  have HM := Lib.hid hbs
  have c3 := hr.c3
  clear hb hr hbs HC
  go_wp2_with fail
  refine (bsr_a w1 m HM.out).mono ?_
  rintro e w2 ⟨rfl, rfl⟩
  go_wp2_with fail
  go_ret
  exact ⟨rfl, HB.out⟩

theorem six_new (w : World) : SixAt (w.alloc (.cells #[.string ⟨#[92]⟩, .string ⟨#[92, 92]⟩, .string ⟨#[34]⟩, .string ⟨#[92, 34]⟩, .string ⟨#[10]⟩, .string ⟨#[92, 110]⟩] 9)) w.heap.size := by
  refine ⟨by simp, fun j u hj => ?_⟩
  have h := World.news_of_block (heap_alloc_new w (.cells #[.string ⟨#[92]⟩, .string ⟨#[92, 92]⟩, .string ⟨#[34]⟩, .string ⟨#[92, 34]⟩, .string ⟨#[10]⟩, .string ⟨#[92, 110]⟩] 9)) j u hj
  rwa [show (⟨w.heap.size, 0, none⟩ : Addr).add j = ⟨w.heap.size, j, none⟩ by simp [Addr.add]; intro e; exact e.symm] at h

set_option maxRecDepth 100000 in
theorem quoted_a (w : World) :
    Calls Tryz.prog 28 #[.string ⟨#[97]⟩] w (fun e w' => e = .returned (.string ⟨#[34, 97, 34]⟩) ∧ Below w.heap.size w w') := by
  have HS := Lib.hid (six_new w)
  have HB : Hid (Below w.heap.size w (w.alloc (.cells #[.string ⟨#[92]⟩, .string ⟨#[92, 92]⟩, .string ⟨#[34]⟩, .string ⟨#[92, 34]⟩, .string ⟨#[10]⟩, .string ⟨#[92, 110]⟩] 9))) := (Below.refl _ _).alloc (Nat.le_refl _) _
  have hz0 : (w.alloc (.cells #[.string ⟨#[92]⟩, .string ⟨#[92, 92]⟩, .string ⟨#[34]⟩, .string ⟨#[92, 34]⟩, .string ⟨#[10]⟩, .string ⟨#[92, 110]⟩] 9)).heap.size = w.heap.size + 1 := by simp
  have HZ := Lib.hid hz0
  clear hz0
  go_enter Tryz.func28, Tryz.ntmps28
  go_wp2_with fail
  generalize w.alloc (.cells #[.string ⟨#[92]⟩, .string ⟨#[92, 92]⟩, .string ⟨#[34]⟩, .string ⟨#[92, 34]⟩, .string ⟨#[10]⟩, .string ⟨#[92, 110]⟩] 9) = W at *
  refine (newReplacer_any W w.heap.size 6 HS.out).mono ?_
  rintro e w1 ⟨r, g, c, rfl, hb, hr, hrep, hsix, hgr⟩
  have hz := HZ.out
  have HB1 := Lib.hid (HB.out.trans (hb.mono (by omega)))
  have HR := Lib.hid (replace_a w1 r g c w.heap.size hrep hsix (by omega) (by omega))
  clear hb hrep hsix
  go_wp2_with fail
  refine HR.out.mono ?_
  rintro e w2 ⟨rfl, hb2⟩
  have HB2 := Lib.hid (HB1.out.trans hb2)
  clear hb2
  go_wp2_with fail
  go_ret
  exact ⟨rfl, HB2.out⟩

end Go.Proofs.YteemciknbiloiaaGreatDoor.Ih
