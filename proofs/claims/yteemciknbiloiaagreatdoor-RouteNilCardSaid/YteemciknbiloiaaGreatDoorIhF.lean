/- Walks over layer 6's matcher: once. -/
import Derived.Test.YteemciknbiloiaaGreatDoorIhE
namespace Go.Proofs.YteemciknbiloiaaGreatDoor.Ih
open Go.RowKit

theorem Says.but {w w' : World} {f : Value} {op : Int} {v : ByteArray} {B b : Nat} (h : Says w f op v B b) (hb : But b w w') : Says w' f op v B b := by
  obtain ⟨m, t, hf, h1, h2, h3, h4, h5, h6, h7, h8⟩ := h
  exact ⟨m, t, hf, h1, h2, h3, h4, Nat.lt_of_lt_of_le h5 hb.size, Nat.lt_of_lt_of_le h6 hb.size, (hb.cell (p := ⟨m, 2, none⟩) h5 h3).trans h7, (hb.cell (p := ⟨t, 0, none⟩) h6 h4).trans h8⟩

theorem Says.mono {w : World} {f : Value} {op : Int} {v : ByteArray} {B B' b : Nat} (h : Says w f op v B b) (hB : B' ≤ B) : Says w f op v B' b := by
  obtain ⟨m, t, hf, h1, h2, h⟩ := h
  exact ⟨m, t, hf, by omega, by omega, h⟩

theorem tabs_keep {w w' : World} (h : Lib.Utf8Tabs 0 1 w) (hb : ∀ k, k < 2 → w'.heap[k]? = w.heap[k]?) : Lib.Utf8Tabs 0 1 w' :=
  ⟨fun c hc => (World.cell?_of_block (w := w) (a := ⟨0, _, none⟩) (hb _ (by show 0 < 2; decide))).trans (h.1 c hc), fun i hi => ⟨(World.cell?_of_block (w := w) (a := ⟨1, _, none⟩) (hb _ (by show 1 < 2; decide))).trans (h.2 i hi).1, (World.cell?_of_block (w := w) (a := ⟨1, _, none⟩) (hb _ (by show 1 < 2; decide))).trans (h.2 i hi).2⟩⟩

theorem tabs_but {w w' : World} {b : Nat} (h : Lib.Utf8Tabs 0 1 w) (hb : But b w w') (h2 : 2 ≤ b) (hz : 2 ≤ w.heap.size) : Lib.Utf8Tabs 0 1 w' :=
  tabs_keep h fun k hk => hb.block k (by omega) (by omega)

abbrev makeFn (b : Nat) : Value := .func (.func 84) #[.pointer (some ⟨b, 0, none⟩)] #[]

set_option maxRecDepth 100000 in
set_option maxHeartbeats 2000000 in
theorem slow_any (w : World) (b : Nat) (op : Int) (n v : ByteArray) (why : Int) (says : Value) (hT : Lib.Utf8Tabs 0 1 w) (h2 : 2 ≤ b) (h : MtAt w b op n v 0 0 why says) (hm : MOk op n v) :
    Calls Tryz.prog 63 #[.pointer (some ⟨b, 3, none⟩), makeFn b] w (fun e w' => e = .returned (.tuple #[]) ∧ But b w w' ∧ ∃ f, MtAt w' b op n v 1 0 0 f ∧ Says w' f op v w.heap.size b) := by
  have HM := Lib.hid hm
  have HT := Lib.hid hT
  have h1 := h.set4 1
  have H1 := Lib.hid h1
  have c4 := h.c4
  have z4 := h.fz 4
  have d3 := h1.c3
  have hb1 : But b w (w.setCell ⟨b, 4, none⟩ (.int .i32 1)) := (But.refl b w).set 4 _
  have HB1 := Lib.hid hb1
  have hs1 : (w.setCell ⟨b, 4, none⟩ (.int .i32 1)).heap.size = w.heap.size := by simp [World.setCell]
  have HS1 := Lib.hid hs1
  have hnot : ∀ (x : Bool) (w : World), (Op.unary .not (.bool x)).run Tryz.prog w = .ok (.bool (!x)) w := fun _ _ => rfl
  clear hm hT h h1 hb1 hs1
  go_enter_defers Tryz.func63, Tryz.ntmps63
  go_wp2_with fail
  refine (lock_free ⟨b, 4, none⟩ w c4 z4).mono ?_
  rintro e w1 ⟨rfl, rfl⟩
  go_wp2_with fail
  refine (load_any ⟨b, 3, none⟩ 0 _ d3).mono ?_
  rintro e w1 ⟨rfl, rfl⟩
  generalize w.setCell ⟨b, 4, none⟩ (.int .i32 1) = W1 at *
  go_wp2_with fail
  have hlt := H1.out.lt
  refine (make_eq W1 b op n v 0 1 why says (tabs_but HT.out HB1.out h2 (by have := HS1.out; omega)) H1.out HM.out).mono ?_
  rintro e w2 ⟨rfl, hb2, f, h3, hs3⟩
  have HB2 := Lib.hid (HB1.out.trans hb2)
  have HSY := Lib.hid (hs3.mono (Nat.le_of_eq HS1.out.symm))
  have H3 := Lib.hid h3
  clear hb2 hs3 h3 d3 c4 z4
  go_wp2_with fail
  refine leaves_cons (f := 79) (args := #[.pointer (some ⟨b, 3, none⟩), .bool true]) (by simp) (by simp [go_sem]) ?_
  refine (store_deferred ⟨b, 3, none⟩ (.int .u32 0) .returning _ H3.out.c3 (H3.out.fz 3)).mono ?_
  rintro e u' w3 ⟨rfl, rfl, rfl⟩
  have h4 := H3.out.drew.set3 1
  refine leaves_cons (f := 78) (args := #[.pointer (some ⟨b, 4, none⟩)]) (by simp [settle]) (by simp [go_sem]) ?_
  refine (unlock_deferred ⟨b, 4, none⟩ _ _ h4.c4 (h4.fz 4)).mono ?_
  rintro e u' w4 ⟨rfl, rfl, rfl⟩
  have hb5 : But b w2 ((w2.drew.setCell ⟨b, 3, none⟩ (.int .u32 1)).setCell ⟨b, 4, none⟩ (.int .i32 0)) := (((But.refl b w2).drew).set 3 _).set 4 _
  have hfin := HB2.out.trans hb5
  have hsf := HSY.out.but hb5
  have h5 := h4.set4 0
  simp [Leaves, settle, results, Tryz.results63]
  exact ⟨hfin, f, h5, hsf⟩

set_option maxRecDepth 100000 in
theorem do_first (w : World) (b : Nat) (op : Int) (n v : ByteArray) (why : Int) (says : Value) (hT : Lib.Utf8Tabs 0 1 w) (h2 : 2 ≤ b) (h : MtAt w b op n v 0 0 why says) (hm : MOk op n v) :
    Calls Tryz.prog 50 #[.pointer (some ⟨b, 3, none⟩), makeFn b] w (fun e w' => e = .returned (.tuple #[]) ∧ But b w w' ∧ ∃ f, MtAt w' b op n v 1 0 0 f ∧ Says w' f op v w.heap.size b) := by
  have c3 := h.c3
  have H := Lib.hid h
  have HM := Lib.hid hm
  have HT := Lib.hid hT
  have hnot : ∀ (x : Bool) (w : World), (Op.unary .not (.bool x)).run Tryz.prog w = .ok (.bool (!x)) w := fun _ _ => rfl
  clear h hm hT
  go_enter Tryz.func50, Tryz.ntmps50
  go_wp2_with fail
  refine (load_any ⟨b, 3, none⟩ 0 _ c3).mono ?_
  rintro e w1 ⟨rfl, rfl⟩
  go_wp2_with fail
  refine (slow_any w1 b op n v why says HT.out h2 H.out HM.out).mono ?_
  rintro e w2 ⟨rfl, hb⟩
  have HB := Lib.hid hb
  clear hb
  go_wp2_with fail
  go_end0
  exact ⟨rfl, HB.out⟩

theorem do_done (w : World) (a : Addr) (fv : Value) (h : w.cell? a = some (.int .u32 1)) :
    Calls Tryz.prog 50 #[.pointer (some a), fv] w (fun e w' => e = .returned (.tuple #[]) ∧ w' = w) := by
  have hnot : ∀ (x : Bool) (w : World), (Op.unary .not (.bool x)).run Tryz.prog w = .ok (.bool (!x)) w := fun _ _ => rfl
  go_enter Tryz.func50, Tryz.ntmps50
  go_wp2_with fail
  refine (load_any a 1 _ h).mono ?_
  rintro e w1 ⟨rfl, rfl⟩
  go_wp2_with fail
  go_end0
  exact ⟨rfl, rfl⟩

set_option maxRecDepth 100000 in
theorem right_first (w : World) (b : Nat) (op : Int) (n v : ByteArray) (why : Int) (says : Value) (hT : Lib.Utf8Tabs 0 1 w) (h2 : 2 ≤ b) (h : MtAt w b op n v 0 0 why says) (hm : MOk op n v) :
    Calls Tryz.prog 74 #[.pointer (some ⟨b, 0, none⟩)] w (fun e w' => e = .returned (.int .i64 0) ∧ But b w w' ∧ ∃ f, MtAt w' b op n v 1 0 0 f ∧ Says w' f op v w.heap.size b) := by
  have c0 := h.c0
  have H := Lib.hid h
  have HM := Lib.hid hm
  have HT := Lib.hid hT
  clear h hm hT
  go_enter Tryz.func74, Tryz.ntmps74
  go_wp2_with fail
  refine (do_first w b op n v why says HT.out h2 H.out HM.out).mono ?_
  rintro e w2 ⟨rfl, hb, f, h3, hs⟩
  have c6 := h3.c6
  have HB := Lib.hid hb
  have H3 := Lib.hid h3
  have HS := Lib.hid hs
  clear hb h3 hs c0
  go_wp2_with fail
  go_ret
  exact ⟨rfl, HB.out, f, H3.out, HS.out⟩

set_option maxRecDepth 100000 in
theorem right_done (w : World) (b : Nat) (op : Int) (n v : ByteArray) (says : Value) (h : MtAt w b op n v 1 0 0 says) :
    Calls Tryz.prog 74 #[.pointer (some ⟨b, 0, none⟩)] w (fun e w' => e = .returned (.int .i64 0) ∧ w' = w) := by
  have c3 := h.c3
  have c6 := h.c6
  clear h
  go_enter Tryz.func74, Tryz.ntmps74
  go_wp2_with fail
  refine (do_done w ⟨b, 3, none⟩ _ c3).mono ?_
  rintro e w2 ⟨rfl, rfl⟩
  go_wp2_with fail
  go_ret
  exact ⟨rfl, rfl⟩

/-- What a plain matcher says of a value. -/
def mSays (op : Int) (v x : ByteArray) : Bool := (x.toList == v.toList) != (op == 2)

theorem says_any (w : World) (f : Value) (op : Int) (v x : ByteArray) (B b : Nat) (h : Says w f op v B b) (m t : Nat) (hf : f = .func (.func 92) #[] #[.pointer (some ⟨m, 0, none⟩), .pointer (some ⟨t, 0, none⟩)]) :
    Calls Tryz.prog 92 #[.string x, .pointer (some ⟨m, 0, none⟩), .pointer (some ⟨t, 0, none⟩)] w (fun e w' => e = .returned (.bool (mSays op v x)) ∧ w' = w) := by
  obtain ⟨m', t', hf', _, _, _, _, _, _, h7, h8⟩ := h
  rw [hf] at hf'
  obtain ⟨rfl, rfl⟩ : m = m' ∧ t = t' := by simpa using hf'
  go_enter Tryz.func92, Tryz.ntmps92
  go_wp2_with fail
  go_ret
  exact ⟨rfl, rfl⟩

end Go.Proofs.YteemciknbiloiaaGreatDoor.Ih
