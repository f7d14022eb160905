/- Walks over sync.Mutex and sync/atomic.Bool, one goroutine. -/
import Derived.Test.YtgcmjidphoklkaaGreatDoorIhP1
import Derived.Tactics
import Derived.Tactics2
import Derived.Defers
import Derived.Laws.Pointers
import Derived.Laws.LoneSync
import Derived.RegionTactic
import Derived.RegionCalls
import Derived.Laws.NewBlocks
namespace Go.Proofs.YtgcmjidphoklkaaGreatDoor.Ih
open Go.RowKit

theorem disable (w : World) : (callFunc 66 #[]).run Tryz.prog w = .ok (.value (.tuple #[])) w := run_call_mark0 Tryz.func66 (by kernel_rfl) (by kernel_rfl) (by kernel_rfl) .disable (by kernel_rfl) w
theorem enable (w : World) : (callFunc 68 #[]).run Tryz.prog w = .ok (.value (.tuple #[])) w := run_call_mark0 Tryz.func68 (by kernel_rfl) (by kernel_rfl) (by kernel_rfl) .enable (by kernel_rfl) w
theorem acquire (a : Addr) (w : World) : (callFunc 69 #[.pointer (some a)]).run Tryz.prog w = .ok (.value (.tuple #[])) w := run_call_marked Tryz.func69 (by kernel_rfl) (by kernel_rfl) (by kernel_rfl) .acquire (by kernel_rfl) a w
theorem releaseMerge (a : Addr) (w : World) : (callFunc 71 #[.pointer (some a)]).run Tryz.prog w = .ok (.value (.tuple #[])) w := run_call_marked Tryz.func71 (by kernel_rfl) (by kernel_rfl) (by kernel_rfl) .releaseMerge (by kernel_rfl) a w

theorem load_any (a : Addr) (x : Int) (w : World) (hc : w.cell? a = some (.int .u32 x)) :
    Calls Tryz.prog 23 #[.pointer (some a)] w (fun e w' => e = .returned (.bool (x != 0)) ∧ w' = w) := by
  have hl := run_call_load (P := Tryz.prog) Tryz.func36 (by kernel_rfl) (by kernel_rfl) (by kernel_rfl) .u32 (by kernel_rfl) hc
  go_enter Tryz.func23, Tryz.ntmps23
  go_wp2
  go_ret
  exact ⟨rfl, rfl⟩

theorem store_deferred (a : Addr) (x : Value) (u : FrameMode) (w : World) (hc : w.cell? a = some x) (hz : w.frozen? a = false) :
    CallsD Tryz.prog 39 #[.pointer (some a), .bool true] u w fun e u' w' => u' = u ∧ (e = .returned (.tuple #[]) ∧ w' = w.drew.setCell a (.int .u32 1)) := by
  have hc' : w.drew.cell? a = some x := by go_simp
  have hz' : w.drew.frozen? a = false := by go_simp
  have hst := run_call_store (P := Tryz.prog) Tryz.func51 (by kernel_rfl) (by kernel_rfl) (by kernel_rfl) (by kernel_rfl) (k := .u32) (y := 1) hc' hz'
  go_enter_d Tryz.func39, Tryz.ntmps39
  go_wp2
  go_region_calls
  all_goals (go_end0; exact ⟨rfl, rfl⟩)

set_option maxRecDepth 100000 in
theorem unlock_in (a : Addr) (w : World) (hc : w.cell? a = some (.int .i32 1)) (hz : w.frozen? a = false) :
    Calls Tryz.prog 50 #[.pointer (some a)] w fun e w' => e = .returned (.tuple #[]) ∧ w' = w.setCell a (.int .i32 0) := by
  have hd := disable
  have he := enable
  have hr := releaseMerge
  have hadd := run_call_add (P := Tryz.prog) Tryz.func72 (by kernel_rfl) (by kernel_rfl) (by kernel_rfl) .i32 (by kernel_rfl) (y := -1) (s := 0) hc hz (by simp [go_sem]; rfl)
  have hcv := run_convert_to_unsafe (P := Tryz.prog) (src := 137) (dst := 84) Tryz.underlying137 Tryz.underlying84 (by kernel_rfl) hc
  go_enter Tryz.func50, Tryz.ntmps50
  go_wp2
  go_end0
  exact ⟨rfl, rfl⟩

theorem unlock_deferred (a : Addr) (u : FrameMode) (w : World) (hc : w.cell? a = some (.int .i32 1)) (hz : w.frozen? a = false) :
    CallsD Tryz.prog 38 #[.pointer (some a)] u w fun e u' w' => u' = u ∧ (e = .returned (.tuple #[]) ∧ w' = w.setCell a (.int .i32 0)) := by
  go_enter_d Tryz.func38, Tryz.ntmps38
  go_wp2_with (go_at_call 50; refine (unlock_in a _ hc hz).mono ?_; rintro e w' ⟨rfl, rfl⟩)
  go_end0
  exact ⟨rfl, rfl⟩

set_option maxRecDepth 100000 in
theorem lock_in (a : Addr) (w : World) (hc : w.cell? a = some (.int .i32 0)) (hz : w.frozen? a = false) :
    Calls Tryz.prog 49 #[.pointer (some a)] w fun e w' => e = .returned (.tuple #[]) ∧ w' = w.setCell a (.int .i32 1) := by
  have hd := disable
  have he := enable
  have ha := acquire
  have hcas := run_call_cas_hit (P := Tryz.prog) Tryz.func67 (by kernel_rfl) (by kernel_rfl) (by kernel_rfl) .i32 (by kernel_rfl) (y := 1) hc hz
  have hc' : (w.setCell a (.int .i32 1)).cell? a = some (.int .i32 1) := World.cell?_setCell_same w a _ hc
  have hcv := run_convert_to_unsafe (P := Tryz.prog) (src := 137) (dst := 84) Tryz.underlying137 Tryz.underlying84 (by kernel_rfl) hc'
  go_enter Tryz.func49, Tryz.ntmps49
  go_wp2
  first | go_end0 | (simp only [Exit.inBlock, Exit.then]; refine bodyPost_ret (results_none rfl _ _ _) rfl ?_) | refine bodyPost_ret (results_none rfl _ _ _) rfl ?_
  exact ⟨rfl, rfl⟩

theorem lock_free (a : Addr) (w : World) (hc : w.cell? a = some (.int .i32 0)) (hz : w.frozen? a = false) :
    Calls Tryz.prog 37 #[.pointer (some a)] w fun e w' => e = .returned (.tuple #[]) ∧ w' = w.setCell a (.int .i32 1) := by
  go_enter Tryz.func37, Tryz.ntmps37
  go_wp2_with (go_at_call 49; refine (lock_in a _ hc hz).mono ?_; rintro e w' ⟨rfl, rfl⟩)
  go_end0
  exact ⟨rfl, rfl⟩

end Go.Proofs.YtgcmjidphoklkaaGreatDoor.Ih

/- Walks over layer 6's matcher: what it says, made once. -/
namespace Go.Proofs.YtgcmjidphoklkaaGreatDoor.Ih
open Go.RowKit

/-- The frame of a matcher's walks: of the blocks that were there, b's alone may have turned. -/
structure But (b : Nat) (w w' : World) : Prop where
  os : w'.os = w.os
  tape : w'.tape = w.tape
  output : w'.output = w.output
  size : w.heap.size ≤ w'.heap.size
  block : ∀ k, k < w.heap.size → k ≠ b → w'.heap[k]? = w.heap[k]?

theorem But.refl (b : Nat) (w : World) : But b w w := ⟨rfl, rfl, rfl, Nat.le_refl _, fun _ _ _ => rfl⟩
theorem But.trans {b : Nat} {w1 w2 w3 : World} (h : But b w1 w2) (k : But b w2 w3) : But b w1 w3 :=
  ⟨k.os.trans h.os, k.tape.trans h.tape, k.output.trans h.output, Nat.le_trans h.size k.size, fun i hi hn => (k.block i (Nat.lt_of_lt_of_le hi h.size) hn).trans (h.block i hi hn)⟩
theorem But.of {b : Nat} {w w' : World} (h : Below w.heap.size w w') : But b w w' := ⟨h.os, h.tape, h.output, h.size, fun k hk _ => h.block k hk⟩
theorem But.set {b : Nat} {w w' : World} (h : But b w w') (k : Nat) (u : Value) : But b w (w'.setCell ⟨b, k, none⟩ u) :=
  h.trans ⟨rfl, rfl, rfl, by simp [World.setCell], fun i _ hn => Below.heap_setCell _ _ _ _ hn⟩
theorem But.drew {b : Nat} {w w' : World} (h : But b w w') : But b w w'.drew := ⟨h.os, h.tape, h.output, h.size, h.block⟩
theorem But.alloc {b : Nat} {w w' : World} (h : But b w w') (o : Obj) : But b w (w'.alloc o) :=
  h.trans (.of ((Below.refl _ _).alloc (Nat.le_refl _) _))
theorem But.below {b B : Nat} {w w' : World} (h : But b w w') (hb : B ≤ b) (hB : B ≤ w.heap.size) : Below B w w' :=
  ⟨h.os, h.tape, h.output, h.size, fun k hk => h.block k (by omega) (by omega)⟩
theorem But.cell {b : Nat} {w w' : World} (h : But b w w') {p : Addr} (hp : p.block < w.heap.size) (hn : p.block ≠ b) : w'.cell? p = w.cell? p := World.cell?_of_block (w := w) (h.block p.block hp hn)

structure MtAt (w : World) (b : Nat) (op : Int) (n v : ByteArray) (dn st why : Int) (says : Value) : Prop where
  lt : b < w.heap.size
  c0 : w.cell? ⟨b, 0, none⟩ = some (.int .i64 op)
  c1 : w.cell? ⟨b, 1, none⟩ = some (.string n)
  c2 : w.cell? ⟨b, 2, none⟩ = some (.string v)
  c3 : w.cell? ⟨b, 3, none⟩ = some (.int .u32 dn)
  c4 : w.cell? ⟨b, 4, none⟩ = some (.int .i32 st)
  c6 : w.cell? ⟨b, 6, none⟩ = some (.int .i64 why)
  c7 : w.cell? ⟨b, 7, none⟩ = some says
  fz : ∀ k, w.frozen? ⟨b, k, none⟩ = false

theorem MtAt.like {w w' : World} {b : Nat} {op : Int} {n v : ByteArray} {dn st why : Int} {says : Value} (h : MtAt w b op n v dn st why says) (hb : w'.heap[b]? = w.heap[b]?) (hs : w.heap.size ≤ w'.heap.size) : MtAt w' b op n v dn st why says := by
  have e : ∀ k, w'.cell? ⟨b, k, none⟩ = w.cell? ⟨b, k, none⟩ := fun k => World.cell?_of_block (w := w) (a := ⟨b, k, none⟩) hb
  exact ⟨Nat.lt_of_lt_of_le h.lt hs, (e 0).trans h.c0, (e 1).trans h.c1, (e 2).trans h.c2, (e 3).trans h.c3, (e 4).trans h.c4, (e 6).trans h.c6, (e 7).trans h.c7,
    fun k => (World.frozen?_of_block (w := w) (a := ⟨b, k, none⟩) hb).trans (h.fz k)⟩

theorem other {w : World} {b i k : Nat} {u : Value} {x : Option Value} (h : w.cell? ⟨b, k, none⟩ = x) (hn : i ≠ k) : (w.setCell ⟨b, i, none⟩ u).cell? ⟨b, k, none⟩ = x :=
  (World.cell?_setCell_other _ ⟨b, i, none⟩ ⟨b, k, none⟩ _ (fun e => hn (by injection e))).trans h

theorem MtAt.set3 {w : World} {b : Nat} {op : Int} {n v : ByteArray} {dn st why : Int} {says : Value} (h : MtAt w b op n v dn st why says) (x : Int) : MtAt (w.setCell ⟨b, 3, none⟩ (.int .u32 x)) b op n v x st why says :=
  ⟨by simpa [World.setCell] using h.lt, other h.c0 (by decide), other h.c1 (by decide), other h.c2 (by decide), World.cell?_setCell_same _ _ _ h.c3, other h.c4 (by decide), other h.c6 (by decide), other h.c7 (by decide), fun k => by simpa using h.fz k⟩
theorem MtAt.set4 {w : World} {b : Nat} {op : Int} {n v : ByteArray} {dn st why : Int} {says : Value} (h : MtAt w b op n v dn st why says) (x : Int) : MtAt (w.setCell ⟨b, 4, none⟩ (.int .i32 x)) b op n v dn x why says :=
  ⟨by simpa [World.setCell] using h.lt, other h.c0 (by decide), other h.c1 (by decide), other h.c2 (by decide), other h.c3 (by decide), World.cell?_setCell_same _ _ _ h.c4, other h.c6 (by decide), other h.c7 (by decide), fun k => by simpa using h.fz k⟩
theorem MtAt.set6 {w : World} {b : Nat} {op : Int} {n v : ByteArray} {dn st why : Int} {says : Value} (h : MtAt w b op n v dn st why says) (x : Int) : MtAt (w.setCell ⟨b, 6, none⟩ (.int .i64 x)) b op n v dn st x says :=
  ⟨by simpa [World.setCell] using h.lt, other h.c0 (by decide), other h.c1 (by decide), other h.c2 (by decide), other h.c3 (by decide), other h.c4 (by decide), World.cell?_setCell_same _ _ _ h.c6, other h.c7 (by decide), fun k => by simpa using h.fz k⟩
theorem MtAt.set7 {w : World} {b : Nat} {op : Int} {n v : ByteArray} {dn st why : Int} {says : Value} (h : MtAt w b op n v dn st why says) (x : Value) : MtAt (w.setCell ⟨b, 7, none⟩ x) b op n v dn st why x :=
  ⟨by simpa [World.setCell] using h.lt, other h.c0 (by decide), other h.c1 (by decide), other h.c2 (by decide), other h.c3 (by decide), other h.c4 (by decide), other h.c6 (by decide), World.cell?_setCell_same _ _ _ h.c7, fun k => by simpa using h.fz k⟩
theorem MtAt.drew {w : World} {b : Nat} {op : Int} {n v : ByteArray} {dn st why : Int} {says : Value} (h : MtAt w b op n v dn st why says) : MtAt w.drew b op n v dn st why says := h.like rfl (Nat.le_refl _)
theorem MtAt.alloc {w : World} {b : Nat} {op : Int} {n v : ByteArray} {dn st why : Int} {says : Value} (h : MtAt w b op n v dn st why says) (o : Obj) : MtAt (w.alloc o) b op n v dn st why says :=
  h.like (Below.heap_alloc _ _ _ h.lt) (by simp)

/-- A matcher's parts are right (a plain one). -/
structure MOk (op : Int) (n v : ByteArray) : Prop where
  op1 : 1 ≤ op
  op2 : op ≤ 2
  name : namedB n 64 false = true
  nlen : n.size ≤ 64
  value : Lib.validD v.data.toList = true
  vlen : v.size ≤ 256

set_option maxRecDepth 100000 in
theorem wrong_ok (w : World) (op : Int) (n v : ByteArray) (hT : Lib.Utf8Tabs 0 1 w) (hm : MOk op n v) :
    Calls Tryz.prog 25 #[.agg #[.int .i64 op, .string n, .string v]] w (fun e w' => e = .returned (.int .i64 0) ∧ Below w.heap.size w w') := by
  obtain ⟨o1, o2, hn, hnl, hv, hvl⟩ := hm
  have HT := Lib.hid hT
  have HV := Lib.hid hv
  clear hT hv
  have h1 : ¬ op < 1 := by omega
  have h2 : ¬ 4 < op := by omega
  have hW : Hid (∀ W, W = w.alloc (.cells #[.int .i64 op, .string n, .string v] 26) → Below w.heap.size w W ∧ W.heap.size = w.heap.size + 1 ∧ W.cell? ⟨w.heap.size, 0, none⟩ = some (.int .i64 op) ∧ W.cell? ⟨w.heap.size, 1, none⟩ = some (.string n) ∧ W.cell? ⟨w.heap.size, 2, none⟩ = some (.string v)) := by
    rintro W rfl
    exact ⟨(Below.refl _ _).alloc (Nat.le_refl _) _, by simp, by simp, by simp, by simp⟩
  go_enter Tryz.func25, Tryz.ntmps25
  go_wp2_with fail
  generalize hWe : w.alloc (.cells #[.int .i64 op, .string n, .string v] 26) = W at *
  obtain ⟨hbW, hszW, d0, d1, d2⟩ := hW.out W rfl
  clear hW hWe
  have HBW := Lib.hid hbW
  clear hbW
  refine (name_any W n (by omega)).mono ?_
  rintro e w2 ⟨rfl, hb2⟩
  rw [hn]
  have HB2 := Lib.hid (HBW.out.trans (hb2.mono (by omega)))
  have e2 : w2.cell? ⟨w.heap.size, 2, none⟩ = some (.string v) := (hb2.cell (p := ⟨w.heap.size, 2, none⟩) (by show w.heap.size < W.heap.size; omega)).trans d2
  have hsz2 := hb2.size
  clear hb2 d0 d1 d2
  go_wp2_with fail
  refine (Tryz.utf8_ValidString v w2 (by omega) (Utf8Tabs_below HT.out HB2.out)).mono ?_
  rintro e w3 ⟨rfl, hb3⟩
  rw [HV.out]
  have HB3 := Lib.hid (HB2.out.trans (hb3.mono (by omega)))
  have f2 : w3.cell? ⟨w.heap.size, 2, none⟩ = some (.string v) := (hb3.cell (p := ⟨w.heap.size, 2, none⟩) (by show w.heap.size < w2.heap.size; omega)).trans e2
  clear hb3 e2
  go_wp2_with fail
  go_ret
  exact ⟨rfl, HB3.out⟩

/-- What a matcher's function value is. -/
def Says (w : World) (f : Value) (op : Int) (v : ByteArray) (B b : Nat) : Prop :=
  ∃ m t, f = .func (.func 26) #[] #[.pointer (some ⟨m, 0, none⟩), .pointer (some ⟨t, 0, none⟩)] ∧ B ≤ m ∧ B ≤ t ∧ m ≠ b ∧ t ≠ b ∧ m < w.heap.size ∧ t < w.heap.size ∧ w.cell? ⟨m, 2, none⟩ = some (.string v) ∧ w.cell? ⟨t, 0, none⟩ = some (.bool (op == 2))

end Go.Proofs.YtgcmjidphoklkaaGreatDoor.Ih

/- Walks over layer 6's matcher: make, once. -/
namespace Go.Proofs.YtgcmjidphoklkaaGreatDoor.Ih
open Go.RowKit

set_option maxRecDepth 100000 in
set_option maxHeartbeats 2000000 in
theorem make_eq (w : World) (b : Nat) (op : Int) (n v : ByteArray) (dn st why : Int) (says : Value) (hT : Lib.Utf8Tabs 0 1 w) (h : MtAt w b op n v dn st why says) (hm : MOk op n v) :
    Calls Tryz.prog 15 #[.pointer (some ⟨b, 0, none⟩)] w (fun e w' => e = .returned (.tuple #[]) ∧ But b w w' ∧ ∃ f, MtAt w' b op n v dn st 0 f ∧ Says w' f op v w.heap.size b) := by
  have HM := Lib.hid hm
  have HT := Lib.hid hT
  have H := Lib.hid h
  obtain ⟨hlt, c0, c1, c2, _, _, c6, c7, fz⟩ := h
  have hW : Hid (∀ W, W = w.alloc (.cells #[.int .i64 op, .string n, .string v] 26) → Below w.heap.size w W ∧ W.heap.size = w.heap.size + 1 ∧ W.cell? ⟨w.heap.size, 0, none⟩ = some (.int .i64 op) ∧ W.cell? ⟨w.heap.size, 1, none⟩ = some (.string n) ∧ W.cell? ⟨w.heap.size, 2, none⟩ = some (.string v)) := by
    rintro W rfl
    exact ⟨(Below.refl _ _).alloc (Nat.le_refl _) _, by simp, by simp, by simp, by simp⟩
  clear hm hT fz c6 c7
  go_enter Tryz.func15, Tryz.ntmps15
  go_wp2_with fail
  generalize hWe : w.alloc (.cells #[.int .i64 op, .string n, .string v] 26) = W at *
  obtain ⟨hbW, hszW, d0, d1, d2⟩ := hW.out W rfl
  clear hW hWe c0 c1 c2
  have HBW := Lib.hid hbW
  clear hbW
  refine (wrong_ok W op n v (Utf8Tabs_below HT.out HBW.out) HM.out).mono ?_
  rintro e w2 ⟨rfl, hb2⟩
  have HB2 := Lib.hid (HBW.out.trans (hb2.mono (by omega)))
  have e0 : w2.cell? ⟨w.heap.size, 0, none⟩ = some (.int .i64 op) := (hb2.cell (p := ⟨w.heap.size, 0, none⟩) (by show w.heap.size < W.heap.size; omega)).trans d0
  have e2 : w2.cell? ⟨w.heap.size, 2, none⟩ = some (.string v) := (hb2.cell (p := ⟨w.heap.size, 2, none⟩) (by show w.heap.size < W.heap.size; omega)).trans d2
  have hsz2 := hb2.size
  have h22 := H.out.like (HB2.out.block b hlt) HB2.out.size
  clear hb2 d0 d1 d2
  have k6 := h22.c6
  have kz := h22.fz 6
  have hn1 : ¬ b = w.heap.size := by omega
  have hn2 : ¬ w.heap.size = w2.heap.size := by omega
  have hn3 : ¬ b = w2.heap.size := by omega
  have hop : op = 1 ∨ op = 2 := by have := HM.out.op1; have := HM.out.op2; omega
  have H22 := Lib.hid h22
  have k7 := h22.c7
  have kz7 := h22.fz 7
  clear h22
  have hW4 : Hid (∀ W4 f, W4 = ((w2.setCell ⟨b, 6, none⟩ (.int .i64 0)).alloc (.cells #[.bool (op == 2)] 4)).setCell ⟨b, 7, none⟩ f → f = .func (.func 26) #[] #[.pointer (some ⟨w.heap.size, 0, none⟩), .pointer (some ⟨w2.heap.size, 0, none⟩)] → But b w W4 ∧ ∃ f, MtAt W4 b op n v dn st 0 f ∧ Says W4 f op v w.heap.size b) := by
    rintro W4 f rfl hf
    have hs : (w2.setCell ⟨b, 6, none⟩ (.int .i64 0)).heap.size = w2.heap.size := by simp [World.setCell]
    have hz : ((((w2.setCell ⟨b, 6, none⟩ (.int .i64 0)).alloc (.cells #[.bool (op == 2)] 4)).setCell ⟨b, 7, none⟩ f)).heap.size = w2.heap.size + 1 := by simp [World.setCell]
    refine ⟨(((But.of HB2.out).set 6 _).alloc _).set 7 _, f, ((H22.out.set6 0).alloc _).set7 f, _, _, hf, Nat.le_refl _, by omega, by omega, by omega, by rw [hz]; omega, by rw [hz]; omega, ?_, ?_⟩
    · refine (World.cell?_setCell_other _ ⟨b, 7, none⟩ ⟨w.heap.size, 2, none⟩ _ (fun e => by injection e; omega)).trans ?_
      rw [World.cell?_alloc_past _ _ _ (by rw [hs]; show w.heap.size < w2.heap.size; omega)]
      exact (World.cell?_setCell_other _ ⟨b, 6, none⟩ ⟨w.heap.size, 2, none⟩ _ (fun e => by injection e; omega)).trans e2
    · refine (World.cell?_setCell_other _ ⟨b, 7, none⟩ ⟨w2.heap.size, 0, none⟩ _ (fun e => by injection e; omega)).trans ?_
      have gen : ∀ (X : World) (x : Value) (t : TypeId), (X.alloc (.cells #[x] t)).cell? ⟨X.heap.size, 0, none⟩ = some x := fun X x t => by simp
      have := gen (w2.setCell ⟨b, 6, none⟩ (.int .i64 0)) (.bool (op == 2)) 4
      rwa [hs] at this
  have hq : ∀ o, ((w2.setCell ⟨b, 6, none⟩ (.int .i64 0)).alloc o).cell? ⟨w.heap.size, 0, none⟩ = some (.int .i64 op) ∧ ((w2.setCell ⟨b, 6, none⟩ (.int .i64 0)).alloc o).cell? ⟨b, 7, none⟩ = some says ∧ ((w2.setCell ⟨b, 6, none⟩ (.int .i64 0)).alloc o).frozen? ⟨b, 7, none⟩ = false := fun o => by
    refine ⟨?_, ((H22.out.set6 0).alloc o).c7, ((H22.out.set6 0).alloc o).fz 7⟩
    rw [World.cell?_alloc_past _ _ _ (by simp [World.setCell]; omega)]
    exact (World.cell?_setCell_other _ ⟨b, 6, none⟩ ⟨w.heap.size, 0, none⟩ _ (fun e => by injection e; omega)).trans e0
  clear k7 kz7
  have HQ := Lib.hid hq
  clear hq
  rcases hop with rfl | rfl
  · have ⟨q1, q2, q3⟩ := HQ.out (.cells #[.bool false] 4)
    go_wp2_with fail
    refine bodyPost_ret (results_none rfl _ _ _) rfl ?_
    exact ⟨rfl, hW4.out _ _ rfl rfl⟩
  · have ⟨q1, q2, q3⟩ := HQ.out (.cells #[.bool true] 4)
    go_wp2_with fail
    refine bodyPost_ret (results_none rfl _ _ _) rfl ?_
    exact ⟨rfl, hW4.out _ _ rfl rfl⟩

end Go.Proofs.YtgcmjidphoklkaaGreatDoor.Ih
