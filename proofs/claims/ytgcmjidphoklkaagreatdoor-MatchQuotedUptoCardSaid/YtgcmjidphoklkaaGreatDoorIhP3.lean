/- Walks over layer 6's matcher: once. -/
import Derived.Test.YtgcmjidphoklkaaGreatDoorIhP2
namespace Go.Proofs.YtgcmjidphoklkaaGreatDoor.Ih
open Go.RowKit

theorem Says.but {w w' : World} {f : Value} {op : Int} {v : ByteArray} {B b : Nat} (h : Says w f op v B b) (hb : But b w w') : Says w' f op v B b := by
  obtain ⟨m, t, hf, h1, h2, h3, h4, h5, h6, h7, h8⟩ := h
  exact ⟨m, t, hf, h1, h2, h3, h4, Nat.lt_of_lt_of_le h5 hb.size, Nat.lt_of_lt_of_le h6 hb.size, (hb.cell (p := ⟨m, 2, none⟩) h5 h3).trans h7, (hb.cell (p := ⟨t, 0, none⟩) h6 h4).trans h8⟩

theorem Says.mono {w : World} {f : Value} {op : Int} {v : ByteArray} {B B' b : Nat} (h : Says w f op v B b) (hB : B' ≤ B) : Says w f op v B' b := by
  obtain ⟨m, t, hf, h1, h2, h⟩ := h
  exact ⟨m, t, hf, by omega, by omega, h⟩

theorem tabs_keep {w w' : World} (h : Lib.Utf8Tabs 0 1 w) (hb : ∀ k, k < 2 → w'.heap[k]? = w.heap[k]?) : Lib.Utf8Tabs 0 1 w' :=
  ⟨fun c hc => (World.cell?_of_block (w := w) (a := ⟨0, _, none⟩) (hb _ (by show 0 < 2; decide))).trans (h.1 c hc), fun i hi => ⟨(World.cell?_of_block (w := w) (a := ⟨1, _, none⟩) (hb _ (by show 1 < 2; decide))).trans (h.2 i hi).1, (World.cell?_of_block (w := w) (a := ⟨1, _, none⟩) (hb _ (by show 1 < 2; decide))).trans (h.2 i hi).2⟩⟩

theorem tabs_but {w w' : World} {b : Nat} (h : Lib.Utf8Tabs 0 1 w) (hb : But b w w') (h2 : 2 ≤ b) (hz : 2 ≤ w.heap.size) : Lib.Utf8Tabs 0 1 w' :=
  tabs_keep h fun k hk => hb.block k (by omega) (by omega)

abbrev makeFn (b : Nat) : Value := .func (.func 15) #[.pointer (some ⟨b, 0, none⟩)] #[]

set_option maxRecDepth 100000 in
set_option maxHeartbeats 2000000 in
theorem slow_any (w : World) (b : Nat) (op : Int) (n v : ByteArray) (why : Int) (says : Value) (hT : Lib.Utf8Tabs 0 1 w) (h2 : 2 ≤ b) (h : MtAt w b op n v 0 0 why says) (hm : MOk op n v) :
    Calls Tryz.prog 24 #[.pointer (some ⟨b, 3, none⟩), makeFn b] w (fun e w' => e = .returned (.tuple #[]) ∧ But b w w' ∧ ∃ f, MtAt w' b op n v 1 0 0 f ∧ Says w' f op v w.heap.size b) := by
  have HM := Lib.hid hm
  have HT := Lib.hid hT
  have h1 := h.set4 1
  have H1 := Lib.hid h1
  have c4 := h.c4
  have z4 := h.fz 4
  have d3 := h1.c3
  have hb1 : But b w (w.setCell ⟨b, 4, none⟩ (.int .i32 1)) := (But.refl b w).set 4 _
  have HB1 := Lib.hid hb1
  have hs1 : (w.setCell ⟨b, 4, none⟩ (.int .i32 1)).heap.size = w.heap.size := by simp [World.setCell]
  have HS1 := Lib.hid hs1
  have hnot : ∀ (x : Bool) (w : World), (Op.unary .not (.bool x)).run Tryz.prog w = .ok (.bool (!x)) w := fun _ _ => rfl
  clear hm hT h h1 hb1 hs1
  go_enter_defers Tryz.func24, Tryz.ntmps24
  go_wp2_with fail
  refine (lock_free ⟨b, 4, none⟩ w c4 z4).mono ?_
  rintro e w1 ⟨rfl, rfl⟩
  go_wp2_with fail
  refine (load_any ⟨b, 3, none⟩ 0 _ d3).mono ?_
  rintro e w1 ⟨rfl, rfl⟩
  generalize w.setCell ⟨b, 4, none⟩ (.int .i32 1) = W1 at *
  go_wp2_with fail
  have hlt := H1.out.lt
  refine (make_eq W1 b op n v 0 1 why says (tabs_but HT.out HB1.out h2 (by have := HS1.out; omega)) H1.out HM.out).mono ?_
  rintro e w2 ⟨rfl, hb2, f, h3, hs3⟩
  have HB2 := Lib.hid (HB1.out.trans hb2)
  have HSY := Lib.hid (hs3.mono (Nat.le_of_eq HS1.out.symm))
  have H3 := Lib.hid h3
  clear hb2 hs3 h3 d3 c4 z4
  go_wp2_with fail
  refine leaves_cons (f := 39) (args := #[.pointer (some ⟨b, 3, none⟩), .bool true]) (by simp) (by simp [go_sem]) ?_
  refine (store_deferred ⟨b, 3, none⟩ (.int .u32 0) .returning _ H3.out.c3 (H3.out.fz 3)).mono ?_
  rintro e u' w3 ⟨rfl, rfl, rfl⟩
  have h4 := H3.out.drew.set3 1
  refine leaves_cons (f := 38) (args := #[.pointer (some ⟨b, 4, none⟩)]) (by simp [settle]) (by simp [go_sem]) ?_
  refine (unlock_deferred ⟨b, 4, none⟩ _ _ h4.c4 (h4.fz 4)).mono ?_
  rintro e u' w4 ⟨rfl, rfl, rfl⟩
  have hb5 : But b w2 ((w2.drew.setCell ⟨b, 3, none⟩ (.int .u32 1)).setCell ⟨b, 4, none⟩ (.int .i32 0)) := (((But.refl b w2).drew).set 3 _).set 4 _
  have hfin := HB2.out.trans hb5
  have hsf := HSY.out.but hb5
  have h5 := h4.set4 0
  simp [Leaves, settle, results, Tryz.results24]
  exact ⟨hfin, f, h5, hsf⟩

set_option maxRecDepth 100000 in
theorem do_first (w : World) (b : Nat) (op : Int) (n v : ByteArray) (why : Int) (says : Value) (hT : Lib.Utf8Tabs 0 1 w) (h2 : 2 ≤ b) (h : MtAt w b op n v 0 0 why says) (hm : MOk op n v) :
    Calls Tryz.prog 14 #[.pointer (some ⟨b, 3, none⟩), makeFn b] w (fun e w' => e = .returned (.tuple #[]) ∧ But b w w' ∧ ∃ f, MtAt w' b op n v 1 0 0 f ∧ Says w' f op v w.heap.size b) := by
  have c3 := h.c3
  have H := Lib.hid h
  have HM := Lib.hid hm
  have HT := Lib.hid hT
  have hnot : ∀ (x : Bool) (w : World), (Op.unary .not (.bool x)).run Tryz.prog w = .ok (.bool (!x)) w := fun _ _ => rfl
  clear h hm hT
  go_enter Tryz.func14, Tryz.ntmps14
  go_wp2_with fail
  refine (load_any ⟨b, 3, none⟩ 0 _ c3).mono ?_
  rintro e w1 ⟨rfl, rfl⟩
  go_wp2_with fail
  refine (slow_any w1 b op n v why says HT.out h2 H.out HM.out).mono ?_
  rintro e w2 ⟨rfl, hb⟩
  have HB := Lib.hid hb
  clear hb
  go_wp2_with fail
  go_end0
  exact ⟨rfl, HB.out⟩

theorem do_done (w : World) (a : Addr) (fv : Value) (h : w.cell? a = some (.int .u32 1)) :
    Calls Tryz.prog 14 #[.pointer (some a), fv] w (fun e w' => e = .returned (.tuple #[]) ∧ w' = w) := by
  have hnot : ∀ (x : Bool) (w : World), (Op.unary .not (.bool x)).run Tryz.prog w = .ok (.bool (!x)) w := fun _ _ => rfl
  go_enter Tryz.func14, Tryz.ntmps14
  go_wp2_with fail
  refine (load_any a 1 _ h).mono ?_
  rintro e w1 ⟨rfl, rfl⟩
  go_wp2_with fail
  go_end0
  exact ⟨rfl, rfl⟩

set_option maxRecDepth 100000 in
theorem right_first (w : World) (b : Nat) (op : Int) (n v : ByteArray) (why : Int) (says : Value) (hT : Lib.Utf8Tabs 0 1 w) (h2 : 2 ≤ b) (h : MtAt w b op n v 0 0 why says) (hm : MOk op n v) :
    Calls Tryz.prog 6 #[.pointer (some ⟨b, 0, none⟩)] w (fun e w' => e = .returned (.int .i64 0) ∧ But b w w' ∧ ∃ f, MtAt w' b op n v 1 0 0 f ∧ Says w' f op v w.heap.size b) := by
  have c0 := h.c0
  have H := Lib.hid h
  have HM := Lib.hid hm
  have HT := Lib.hid hT
  clear h hm hT
  go_enter Tryz.func6, Tryz.ntmps6
  go_wp2_with fail
  refine (do_first w b op n v why says HT.out h2 H.out HM.out).mono ?_
  rintro e w2 ⟨rfl, hb, f, h3, hs⟩
  have c6 := h3.c6
  have HB := Lib.hid hb
  have H3 := Lib.hid h3
  have HS := Lib.hid hs
  clear hb h3 hs c0
  go_wp2_with fail
  go_ret
  exact ⟨rfl, HB.out, f, H3.out, HS.out⟩

set_option maxRecDepth 100000 in
theorem right_done (w : World) (b : Nat) (op : Int) (n v : ByteArray) (says : Value) (h : MtAt w b op n v 1 0 0 says) :
    Calls Tryz.prog 6 #[.pointer (some ⟨b, 0, none⟩)] w (fun e w' => e = .returned (.int .i64 0) ∧ w' = w) := by
  have c3 := h.c3
  have c6 := h.c6
  clear h
  go_enter Tryz.func6, Tryz.ntmps6
  go_wp2_with fail
  refine (do_done w ⟨b, 3, none⟩ _ c3).mono ?_
  rintro e w2 ⟨rfl, rfl⟩
  go_wp2_with fail
  go_ret
  exact ⟨rfl, rfl⟩

/-- What a plain matcher says of a value. -/
def mSays (op : Int) (v x : ByteArray) : Bool := (x.toList == v.toList) != (op == 2)

theorem says_any (w : World) (f : Value) (op : Int) (v x : ByteArray) (B b : Nat) (h : Says w f op v B b) (m t : Nat) (hf : f = .func (.func 26) #[] #[.pointer (some ⟨m, 0, none⟩), .pointer (some ⟨t, 0, none⟩)]) :
    Calls Tryz.prog 26 #[.string x, .pointer (some ⟨m, 0, none⟩), .pointer (some ⟨t, 0, none⟩)] w (fun e w' => e = .returned (.bool (mSays op v x)) ∧ w' = w) := by
  obtain ⟨m', t', hf', _, _, _, _, _, _, h7, h8⟩ := h
  rw [hf] at hf'
  obtain ⟨rfl, rfl⟩ : m = m' ∧ t = t' := by simpa using hf'
  go_enter Tryz.func26, Tryz.ntmps26
  go_wp2_with fail
  go_ret
  exact ⟨rfl, rfl⟩

end Go.Proofs.YtgcmjidphoklkaaGreatDoor.Ih

/- Walks over layer 6's matcher: Right, Value, Labels, of a plain matcher, asked or not. -/
namespace Go.Proofs.YtgcmjidphoklkaaGreatDoor.Ih
open Go.RowKit

/-- A plain matcher in memory, asked or not; its function value's variables lie from B on. -/
def MtS (w : World) (b : Nat) (op : Int) (n v : ByteArray) (B : Nat) : Prop :=
  b < w.heap.size ∧ ((∃ why says, MtAt w b op n v 0 0 why says) ∨ ∃ f, MtAt w b op n v 1 0 0 f ∧ Says w f op v B b)

def labGet (l : List Lab) (name : ByteArray) : ByteArray := (((l.find? (fun x => x.1.toList == name.toList)).map (·.2)).getD ⟨#[]⟩)

theorem MtS.name {w : World} {b B : Nat} {op : Int} {n v : ByteArray} (h : MtS w b op n v B) : w.cell? ⟨b, 1, none⟩ = some (.string n) :=
  h.2.elim (fun ⟨_, _, h⟩ => h.c1) (fun ⟨_, h, _⟩ => h.c1)

theorem MtS.below {w w' : World} {b B : Nat} {op : Int} {n v : ByteArray} (h : MtS w b op n v B) (hb : Below w.heap.size w w') : MtS w' b op n v B :=
  ⟨Nat.lt_of_lt_of_le h.1 hb.size, h.2.imp (fun ⟨y, f, k⟩ => ⟨y, f, k.like (hb.block b h.1) hb.size⟩) (fun ⟨f, k, s⟩ => ⟨f, k.like (hb.block b h.1) hb.size, s.but (.of hb)⟩)⟩

theorem right_any (w : World) (b B : Nat) (op : Int) (n v : ByteArray) (hT : Lib.Utf8Tabs 0 1 w) (h2 : 2 ≤ b) (hB : B ≤ w.heap.size) (h : MtS w b op n v B) (hm : MOk op n v) :
    Calls Tryz.prog 6 #[.pointer (some ⟨b, 0, none⟩)] w (fun e w' => e = .returned (.int .i64 0) ∧ But b w w' ∧ ∃ f, MtAt w' b op n v 1 0 0 f ∧ Says w' f op v B b) := by
  rcases h.2 with ⟨why, says, h⟩ | ⟨f, h, hs⟩
  · exact (right_first w b op n v why says hT h2 h hm).mono (fun e w' ⟨he, hb, f, h3, hs⟩ => ⟨he, hb, f, h3, hs.mono hB⟩)
  · exact (right_done w b op n v f h).mono (fun e w' ⟨he, hw⟩ => ⟨he, by rw [hw]; exact But.refl _ _, f, by rw [hw]; exact h, by rw [hw]; exact hs⟩)

set_option maxRecDepth 100000 in
theorem value_any (w : World) (b B : Nat) (op : Int) (n v x : ByteArray) (hT : Lib.Utf8Tabs 0 1 w) (h2 : 2 ≤ b) (hB : B ≤ w.heap.size) (h : MtS w b op n v B) (hm : MOk op n v) :
    Calls Tryz.prog 8 #[.pointer (some ⟨b, 0, none⟩), .string x] w (fun e w' => e = .returned (.bool (mSays op v x)) ∧ But b w w' ∧ MtS w' b op n v B) := by
  obtain ⟨r, hr⟩ : ∃ r, mSays op v x = r := ⟨_, rfl⟩
  rw [hr]
  have H := Lib.hid h
  have HM := Lib.hid hm
  have HT := Lib.hid hT
  clear h hm hT
  go_enter Tryz.func8, Tryz.ntmps8
  go_wp2_with fail
  refine (right_any w b B op n v HT.out h2 hB H.out HM.out).mono ?_
  rintro e w1 ⟨rfl, hb, f, h3, hs⟩
  have c0 := h3.c0
  have c7 := h3.c7
  have HB := Lib.hid hb
  have HS := Lib.hid (And.intro h3.lt (Or.inr ⟨f, h3, hs⟩) : MtS w1 b op n v B)
  have hs' := hs
  obtain ⟨m, t, rfl, _⟩ := hs'
  have HSY := Lib.hid hs
  clear hb h3 hs
  go_wp2_with fail
  refine (says_any w1 _ op v x B b HSY.out m t rfl).mono ?_
  rintro e w2 ⟨rfl, rfl⟩
  rw [hr]
  clear hr
  cases r <;> (go_wp2_with fail; go_ret; exact ⟨rfl, HB.out, HS.out⟩)

set_option maxRecDepth 100000 in
theorem labels_any (w : World) (b B : Nat) (op : Int) (n v : ByteArray) (lb lo c : Nat) (l : List Lab) (hl : LabAt w lb lo l) (hlt : lb < w.heap.size) (hln : l.length ≤ 1000000) (hT : Lib.Utf8Tabs 0 1 w) (h2 : 2 ≤ b) (hB : B ≤ w.heap.size) (h : MtS w b op n v B) (hm : MOk op n v) :
    Calls Tryz.prog 32 #[.pointer (some ⟨b, 0, none⟩), .slice (some ⟨lb, lo, none⟩) l.length c] w (fun e w' => e = .returned (.bool (mSays op v (labGet l n))) ∧ But b w w' ∧ MtS w' b op n v B) := by
  have c1 := h.name
  have H := Lib.hid h
  have HM := Lib.hid hm
  have HT := Lib.hid hT
  have HL := Lib.hid hl
  clear h hm hT hl
  go_enter Tryz.func32, Tryz.ntmps32
  go_wp2_with fail
  refine (get_any w lb lo c l n HL.out hlt hln).mono ?_
  rintro e w1 ⟨rfl, hb1⟩
  rw [show ((l.find? (fun x => x.1.toList == n.toList)).map (·.2)).getD ⟨#[]⟩ = labGet l n from rfl]
  have HB1 := Lib.hid hb1
  have HS1 := Lib.hid (H.out.below hb1)
  have hz1 := hb1.size
  clear hb1 c1
  obtain ⟨x, hx⟩ : ∃ x, labGet l n = x := ⟨_, rfl⟩
  rw [hx]
  obtain ⟨r, hr⟩ : ∃ r, mSays op v x = r := ⟨_, rfl⟩
  go_wp2_with fail
  refine (value_any w1 b B op n v x (Utf8Tabs_below HT.out HB1.out) h2 (by omega) HS1.out HM.out).mono ?_
  rintro e w2 ⟨rfl, hb2, h3⟩
  have HB2 := Lib.hid ((But.of HB1.out).trans hb2 : But b w w2)
  have H3 := Lib.hid h3
  clear hb2 h3
  rw [hr]
  go_wp2_with fail
  cases r <;> (go_wp2_with fail; go_ret; exact ⟨by rw [hx, hr]; rfl, HB2.out, H3.out⟩)

end Go.Proofs.YtgcmjidphoklkaaGreatDoor.Ih

/- Walks over layer 6: New, Right of matchers. -/
namespace Go.Proofs.YtgcmjidphoklkaaGreatDoor.Ih
open Go.RowKit

theorem fresh_at (X : World) (op : Int) (n v : ByteArray) : MtAt (X.alloc (Obj.cells #[Value.int IntKind.i64 op, Value.string n, Value.string v, Value.int IntKind.u32 0, Value.int IntKind.i32 0, Value.int IntKind.u32 0, Value.int IntKind.i64 0, Value.nilFunc] 57)) X.heap.size op n v 0 0 0 Value.nilFunc :=
  ⟨by simp, by simp, by simp, by simp, by simp, by simp, by simp, by simp, fun k => by simp⟩

set_option maxRecDepth 100000 in
theorem new_any (w : World) (op : Int) (n v : ByteArray) :
    Calls Tryz.prog 5 #[.agg #[.int .i64 op, .string n, .string v]] w (fun e w' => ∃ b, e = .returned (.pointer (some ⟨b, 0, none⟩)) ∧ w.heap.size ≤ b ∧ Below w.heap.size w w' ∧ ∃ says, MtAt w' b op n v 0 0 0 says) := by
  go_enter Tryz.func5, Tryz.ntmps5
  go_wp2_with fail
  go_ret
  have hz : (w.alloc (Obj.cells #[Value.int IntKind.i64 op, Value.string n, Value.string v] 26)).heap.size = w.heap.size + 1 := by simp
  refine ⟨w.heap.size + 1, rfl, by omega, ((Below.refl _ _).alloc (Nat.le_refl _) _).alloc (by omega) _, Value.nilFunc, ?_⟩
  have := fresh_at (w.alloc (Obj.cells #[Value.int IntKind.i64 op, Value.string n, Value.string v] 26)) op n v
  rwa [hz] at this

structure Mat where
  op : Int
  n : ByteArray
  v : ByteArray

def Mat.Ok (m : Mat) : Prop := MOk m.op m.n m.v

def MatAt (w : World) (b off : Nat) (l : List Mat) : Prop :=
  ∀ i x, l[i]? = some x → w.cell? ⟨b, off + i * 3, none⟩ = some (.int .i64 x.op) ∧ w.cell? ⟨b, off + i * 3 + 1, none⟩ = some (.string x.n) ∧ w.cell? ⟨b, off + i * 3 + 2, none⟩ = some (.string x.v)

theorem MatAt.below {w w' : World} {b off : Nat} {l : List Mat} (h : MatAt w b off l) (hb : Below w.heap.size w w') (hlt : b < w.heap.size) : MatAt w' b off l := fun i x hx =>
  ⟨(hb.cell (p := ⟨b, off + i * 3, none⟩) hlt).trans (h i x hx).1, (hb.cell (p := ⟨b, off + i * 3 + 1, none⟩) hlt).trans (h i x hx).2.1, (hb.cell (p := ⟨b, off + i * 3 + 2, none⟩) hlt).trans (h i x hx).2.2⟩

set_option maxHeartbeats 2000000 in
theorem rights_ok (w : World) (b off c : Nat) (l : List Mat) (hT : Lib.Utf8Tabs 0 1 w) (h2 : 2 ≤ w.heap.size) (hl : MatAt w b off l) (hlt : b < w.heap.size) (hln : l.length ≤ 16) (hok : ∀ x, x ∈ l → x.Ok) :
    Calls Tryz.prog 31 #[.slice (some ⟨b, off, none⟩) l.length c] w (fun e w' => e = .returned (.tuple #[.int .i64 0, .int .i64 0]) ∧ Below w.heap.size w w') := by
  have HL := Lib.hid hl
  have HOK := Lib.hid hok
  have HT := Lib.hid hT
  clear hl hok hT
  go_enter Tryz.func31, Tryz.ntmps31
  go_wp2_with fail
  go_loopg [12] l.length (fun g i wr => ∃ k, k + g = l.length ∧ i = .int .i64 k ∧ Below w.heap.size w wr)
  case atStart => exact ⟨0, by omega, rfl, Below.refl _ _⟩
  case round =>
    obtain ⟨k, hkg, rfl, hb⟩ := hrel
    have HB := Lib.hid hb
    have hsz := hb.size
    clear hb
    by_cases hlt2 : k < l.length
    · obtain ⟨x, hx⟩ : ∃ x, l[k]? = some x := ⟨_, List.getElem?_eq_getElem hlt2⟩
      have ⟨c1, c2, c3⟩ := HL.out.below HB.out hlt k x hx
      have o := HOK.out x (List.mem_of_getElem? hx)
      have hw1 : IntKind.i64.wrap ((k : Int) + 1) = (k : Int) + 1 := by rw [IntKind.wrap_i64] <;> omega
      have hbn : ¬ b = wr.heap.size := by omega
      obtain ⟨op, n, v⟩ := x
      have HO : Hid (MOk op n v) := Lib.hid o
      simp only at c1 c2 c3
      clear hx o
      have hW : Hid (∀ W, W = wr.alloc (.cells #[.int .i64 op, .string n, .string v] 26) → Below wr.heap.size wr W ∧ W.heap.size = wr.heap.size + 1) := by
        rintro W rfl
        exact ⟨(Below.refl _ _).alloc (Nat.le_refl _) _, by simp⟩
      go_wp2_with fail
      generalize hWe : wr.alloc (.cells #[.int .i64 op, .string n, .string v] 26) = W at *
      obtain ⟨hbW, hszW⟩ := hW.out W rfl
      clear hW hWe c1 c2 c3
      have HBW := Lib.hid hbW
      clear hbW
      refine (new_any W op n v).mono ?_
      rintro e w2 ⟨mb, rfl, hmb, hb2, says, hmt⟩
      have HB2 := Lib.hid (HB.out.trans ((HBW.out.trans (hb2.mono (by omega))).mono hsz))
      have HMT := Lib.hid (And.intro hmt.lt (Or.inl ⟨_, _, hmt⟩) : MtS w2 mb op n v 0)
      have hsz2 := hb2.size
      clear hb2 hmt
      go_wp2_with fail
      refine (right_any w2 mb 0 op n v (Utf8Tabs_below HT.out HB2.out) (by omega) (by omega) HMT.out HO.out).mono ?_
      rintro e w3 ⟨rfl, hb3, _⟩
      have HB3 := Lib.hid (HB2.out.trans (hb3.below (B := w.heap.size) (by omega) (by omega)))
      clear hb3
      go_wp2_with fail
      go_roundg (gk - 1)
      case measure => omega
      case rel => exact ⟨k + 1, by omega, by simp, HB3.out⟩
    · obtain rfl : gk = 0 := by omega
      go_wp2_with fail
      go_ret2
      exact ⟨rfl, HB.out⟩

end Go.Proofs.YtgcmjidphoklkaaGreatDoor.Ih
