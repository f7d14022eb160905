/- Walks over layer 6's matcher, of any operator: what is wrong of it; what its function value is. -/
import Derived.Test.YtgcmjidphoklkaaGreatDoorIhP2
import Derived.Test.YtgcmjidphoklkaaGreatDoorRxLc
import Derived.Test.YtgcmjidphoklkaaGreatDoorIhP3
import Derived.Deep.RegionHeld3
namespace Go.Proofs.YtgcmjidphoklkaaGreatDoor.Ih
open Go.RowKit Rx

/-- What is wrong of a matcher, its expression aside. -/
def wrongP (op : Int) (n v : ByteArray) : Int :=
  if op < 1 ∨ 4 < op then 60 else if namedB n 64 false = false then 40 else if Lib.validD v.data.toList = false then 12 else if 256 < v.size then 4 else 0

theorem wrongP_ok {op : Int} {n v : ByteArray} (h : wrongP op n v = 0) : 1 ≤ op ∧ op ≤ 4 ∧ namedB n 64 false = true ∧ Lib.validD v.data.toList = true ∧ v.size ≤ 256 := by
  unfold wrongP at h
  by_cases h1 : op < 1 ∨ 4 < op
  · rw [if_pos h1] at h; omega
  rw [if_neg h1] at h
  cases h2 : namedB n 64 false with
  | false => rw [if_pos h2] at h; omega
  | true =>
    rw [h2, if_neg (by decide)] at h
    cases h3 : Lib.validD v.data.toList with
    | false => rw [if_pos h3] at h; omega
    | true =>
      rw [h3, if_neg (by decide)] at h
      by_cases h4 : 256 < v.size
      · rw [if_pos h4] at h; omega
      · exact ⟨by omega, by omega, rfl, rfl, by omega⟩

set_option maxRecDepth 100000 in
theorem wrong_any (w : World) (op : Int) (n v : ByteArray) (hT : Lib.Utf8Tabs 0 1 w) (hn : n.size ≤ 140737488355328) (hv : v.size ≤ 140737488355328) :
    Calls Tryz.prog 25 #[.agg #[.int .i64 op, .string n, .string v]] w (fun e w' => e = .returned (.int .i64 (wrongP op n v)) ∧ Below w.heap.size w w') := by
  have HT := Lib.hid hT
  clear hT
  obtain ⟨q, hq⟩ : ∃ q, wrongP op n v = q := ⟨_, rfl⟩
  rw [hq]
  have HQ := Lib.hid hq
  clear hq
  have hW : Hid (∀ W, W = w.alloc (.cells #[.int .i64 op, .string n, .string v] 26) → Below w.heap.size w W ∧ W.heap.size = w.heap.size + 1 ∧ W.cell? ⟨w.heap.size, 0, none⟩ = some (.int .i64 op) ∧ W.cell? ⟨w.heap.size, 1, none⟩ = some (.string n) ∧ W.cell? ⟨w.heap.size, 2, none⟩ = some (.string v)) := by
    rintro W rfl
    exact ⟨(Below.refl _ _).alloc (Nat.le_refl _) _, by simp, by simp, by simp, by simp⟩
  by_cases h1 : op < 1
  · obtain rfl : q = 60 := by rw [← HQ.out]; unfold wrongP; rw [if_pos (.inl h1)]
    go_enter Tryz.func25, Tryz.ntmps25
    go_wp2_with fail
    go_ret
    exact ⟨rfl, (hW.out _ rfl).1⟩
  by_cases h2 : 4 < op
  · obtain rfl : q = 60 := by rw [← HQ.out]; unfold wrongP; rw [if_pos (.inr h2)]
    go_enter Tryz.func25, Tryz.ntmps25
    go_wp2_with fail
    go_ret
    exact ⟨rfl, (hW.out _ rfl).1⟩
  have h12 : ¬ (op < 1 ∨ 4 < op) := by omega
  have H12 := Lib.hid h12
  clear h12
  go_enter Tryz.func25, Tryz.ntmps25
  go_wp2_with fail
  generalize hWe : w.alloc (.cells #[.int .i64 op, .string n, .string v] 26) = W at *
  obtain ⟨hbW, hszW, d0, d1, d2⟩ := hW.out W rfl
  clear hW hWe
  have HBW := Lib.hid hbW
  clear hbW
  refine (name_any W n hn).mono ?_
  rintro e w2 ⟨rfl, hb2⟩
  have HB2 := Lib.hid (HBW.out.trans (hb2.mono (by omega)))
  have e2 : w2.cell? ⟨w.heap.size, 2, none⟩ = some (.string v) := (hb2.cell (p := ⟨w.heap.size, 2, none⟩) (by show w.heap.size < W.heap.size; omega)).trans d2
  have hsz2 := hb2.size
  clear hb2 d0 d1 d2
  cases hnm : namedB n 64 false with
  | false =>
    obtain rfl : q = 40 := by rw [← HQ.out]; unfold wrongP; rw [if_neg H12.out, if_pos hnm]
    go_wp2_with fail
    go_ret
    exact ⟨rfl, HB2.out⟩
  | true =>
    have HN := Lib.hid hnm
    clear hnm
    go_wp2_with fail
    refine (Tryz.utf8_ValidString v w2 (by omega) (Utf8Tabs_below HT.out HB2.out)).mono ?_
    rintro e w3 ⟨rfl, hb3⟩
    have HB3 := Lib.hid (HB2.out.trans (hb3.mono (by omega)))
    have f2 : w3.cell? ⟨w.heap.size, 2, none⟩ = some (.string v) := (hb3.cell (p := ⟨w.heap.size, 2, none⟩) (by show w.heap.size < w2.heap.size; omega)).trans e2
    clear hb3 e2
    cases hvd : Lib.validD v.data.toList with
    | false =>
      obtain rfl : q = 12 := by rw [← HQ.out]; unfold wrongP; rw [if_neg H12.out, if_neg (by rw [HN.out]; decide), if_pos hvd]
      go_wp2_with fail
      go_ret
      exact ⟨rfl, HB3.out⟩
    | true =>
      have HV := Lib.hid hvd
      clear hvd
      by_cases h4 : 256 < v.size
      · obtain rfl : q = 4 := by rw [← HQ.out]; unfold wrongP; rw [if_neg H12.out, if_neg (by rw [HN.out]; decide), if_neg (by rw [HV.out]; decide), if_pos h4]
        go_wp2_with fail
        go_ret
        exact ⟨rfl, HB3.out⟩
      · obtain rfl : q = 0 := by rw [← HQ.out]; unfold wrongP; rw [if_neg H12.out, if_neg (by rw [HN.out]; decide), if_neg (by rw [HV.out]; decide), if_neg h4]
        go_wp2_with fail
        go_ret
        exact ⟨rfl, HB3.out⟩

/-- What is wrong of a matcher, its expression too. -/
def rightP (op : Int) (n v : ByteArray) : Int :=
  if wrongP op n v = 0 then (if op ≤ 2 then 0 else match compileP v with | .ok _ => 0 | .error e => e.1) else wrongP op n v

/-- No expression of it is too large a graph. -/
def LenOk (v : ByteArray) : Prop := ∀ r, compileP v = .ok r → r.graph.2.length ≤ 1000000

/-- What a regular expression's function value is; nothing of it lies below B. -/
def SaysR (w : World) (f : Value) (op : Int) (v : ByteArray) (B : Nat) : Prop :=
  ∃ x t rb r c K C g ns lw, f = .func (.func 28) #[] #[.pointer (some ⟨x, 0, none⟩), .pointer (some ⟨t, 0, none⟩)] ∧ B ≤ x ∧ B ≤ t ∧ x < w.heap.size ∧ t < w.heap.size ∧
    w.cell? ⟨x, 0, none⟩ = some (.pointer (some ⟨rb, 0, none⟩)) ∧ w.cell? ⟨t, 0, none⟩ = some (.bool (op == 4)) ∧ B ≤ lw ∧ lw < rb ∧ RegexAt lw w rb r c K C g ns ∧ compileP v = .ok r ∧ r.graph.2.length ≤ 1000000

/-- What a plain matcher's function value is; nothing of it lies below B. -/
def SaysE (w : World) (f : Value) (op : Int) (v : ByteArray) (B : Nat) : Prop :=
  ∃ m t, f = .func (.func 26) #[] #[.pointer (some ⟨m, 0, none⟩), .pointer (some ⟨t, 0, none⟩)] ∧ B ≤ m ∧ B ≤ t ∧ m < w.heap.size ∧ t < w.heap.size ∧ w.cell? ⟨m, 2, none⟩ = some (.string v) ∧ w.cell? ⟨t, 0, none⟩ = some (.bool (op == 2))

def SaysG (w : World) (f : Value) (op : Int) (v : ByteArray) (B : Nat) : Prop := (op ≤ 2 ∧ SaysE w f op v B) ∨ (3 ≤ op ∧ SaysR w f op v B)

theorem SaysG.up {w w' : World} {f : Value} {op : Int} {v : ByteArray} {B : Nat} (h : SaysG w f op v B) (e : ∀ k, B ≤ k → k < w.heap.size → w'.heap[k]? = w.heap[k]?) (hs : w.heap.size ≤ w'.heap.size) : SaysG w' f op v B := by
  rcases h with ⟨ho, m, t, hf, h1, h2, h5, h6, h7, h8⟩ | ⟨ho, x, t, rb, r, c, K, C, g, ns, lw, hf, h1, h2, h5, h6, h7, h8, h9, h10, hR, h12⟩
  · exact .inl ⟨ho, m, t, hf, h1, h2, Nat.lt_of_lt_of_le h5 hs, Nat.lt_of_lt_of_le h6 hs, (World.cell?_of_block (w := w) (a := ⟨m, 2, none⟩) (e m h1 h5)).trans h7, (World.cell?_of_block (w := w) (a := ⟨t, 0, none⟩) (e t h2 h6)).trans h8⟩
  · exact .inr ⟨ho, x, t, rb, r, c, K, C, g, ns, lw, hf, h1, h2, Nat.lt_of_lt_of_le h5 hs, Nat.lt_of_lt_of_le h6 hs, (World.cell?_of_block (w := w) (a := ⟨x, 0, none⟩) (e x h1 h5)).trans h7, (World.cell?_of_block (w := w) (a := ⟨t, 0, none⟩) (e t h2 h6)).trans h8, h9, h10, hR.up h9 (by omega) e hs, h12⟩

theorem SaysG.mono {w : World} {f : Value} {op : Int} {v : ByteArray} {B B' : Nat} (h : SaysG w f op v B) (hB : B' ≤ B) : SaysG w f op v B' := by
  rcases h with ⟨ho, m, t, hf, h1, h2, h⟩ | ⟨ho, x, t, rb, r, c, K, C, g, ns, lw, hf, h1, h2, h5, h6, h7, h8, h9, h⟩
  · exact .inl ⟨ho, m, t, hf, by omega, by omega, h⟩
  · exact .inr ⟨ho, x, t, rb, r, c, K, C, g, ns, lw, hf, by omega, by omega, h5, h6, h7, h8, by omega, h⟩

theorem SaysG.but {w w' : World} {f : Value} {op : Int} {v : ByteArray} {B b : Nat} (h : SaysG w f op v B) (hb : But b w w') (hB : b < B) : SaysG w' f op v B :=
  h.up (fun k h1 h2 => hb.block k h2 (by omega)) hb.size

/-- What a matcher says of a value. -/
def SaidG (op : Int) (v x : ByteArray) (r : Bool) : Prop :=
  (op ≤ 2 → r = ((x.toList == v.toList) != (op == 2))) ∧ (3 ≤ op → (((r != (op == 4)) = true) ↔ ∃ q, compileP v = .ok q ∧ Re.L q (rnAt x 0)))

end Go.Proofs.YtgcmjidphoklkaaGreatDoor.Ih

/- Walks over layer 6's matcher, of any operator: make. -/
namespace Go.Proofs.YtgcmjidphoklkaaGreatDoor.Ih
open Go.RowKit Rx

theorem make_end {w w2 W3 w4 : World} {b rb : Nat} {r : Re} {c : P9} {K C : List Nat} {g f : Value} {ns : List NdM} {v : ByteArray} {t : TypeId} {u : Bool} {x : Int}
    (hf : f = .func (.func 28) #[] #[.pointer (some ⟨w4.heap.size, 0, none⟩), .pointer (some ⟨w2.heap.size, 0, none⟩)]) (hlen : r.graph.2.length ≤ 1000000) (hc : compileP v = .ok r) (hR : RegexAt W3.heap.size w4 rb r c K C g ns) (hrb : W3.heap.size < rb)
    (h7 : W3.cell? ⟨w2.heap.size, 0, none⟩ = some (.bool u)) (hs : W3.heap.size = w2.heap.size + 1) (hb : Below W3.heap.size W3 w4) (hw : w.heap.size < w2.heap.size) (hbw : b < w.heap.size) {op : Int} (ho : 3 ≤ op) (hu : (op == 4) = u) :
    SaysG (((w4.alloc (.cells #[.pointer (some ⟨rb, 0, none⟩)] t)).setCell ⟨b, 6, none⟩ (.int .i64 x)).setCell ⟨b, 7, none⟩ f) f op v w.heap.size := by
  have hsz := hb.size
  have e : ∀ k, k < w4.heap.size → k ≠ b → (((w4.alloc (.cells #[.pointer (some ⟨rb, 0, none⟩)] t)).setCell ⟨b, 6, none⟩ (.int .i64 x)).setCell ⟨b, 7, none⟩ f).heap[k]? = w4.heap[k]? := fun k hk hn =>
    ((setCell_block_ne _ _ _ _ hn).trans (setCell_block_ne _ _ _ _ hn)).trans (Below.heap_alloc _ _ _ hk)
  have hz : (((w4.alloc (.cells #[.pointer (some ⟨rb, 0, none⟩)] t)).setCell ⟨b, 6, none⟩ (.int .i64 x)).setCell ⟨b, 7, none⟩ f).heap.size = w4.heap.size + 1 := by simp [World.setCell]
  refine .inr ⟨ho, w4.heap.size, w2.heap.size, rb, r, c, K, C, g, ns, W3.heap.size, hf, by omega, by omega, by omega, by omega, ?_, ?_, by omega, hrb, hR.up (lo := w.heap.size) (by omega) (by omega) (fun k h1 h2 => e k h2 (by omega)) (by omega), hc, hlen⟩
  · refine (World.cell?_setCell_other _ ⟨b, 7, none⟩ ⟨w4.heap.size, 0, none⟩ _ (fun e => by injection e; omega)).trans ?_
    refine (World.cell?_setCell_other _ ⟨b, 6, none⟩ ⟨w4.heap.size, 0, none⟩ _ (fun e => by injection e; omega)).trans ?_
    simp
  · rw [hu]
    refine (World.cell?_of_block (w := w4) (a := ⟨w2.heap.size, 0, none⟩) (e w2.heap.size (by omega) (by omega))).trans ?_
    exact (hb.cell (p := ⟨w2.heap.size, 0, none⟩) (by show w2.heap.size < W3.heap.size; omega)).trans h7

set_option maxRecDepth 100000 in
set_option maxHeartbeats 2000000 in
theorem make_g (w : World) (b : Nat) (op : Int) (n v : ByteArray) (dn st why : Int) (says : Value) (hT : Lib.Utf8Tabs 0 1 w) (hz : 2 ≤ w.heap.size) (hbb : 2 ≤ b) (h : MtAt w b op n v dn st why says)
    (hn : n.size ≤ 140737488355328) (hv : v.size ≤ 140737488355328) (hl : 3 ≤ op → LenOk v) :
    Calls Tryz.prog 15 #[.pointer (some ⟨b, 0, none⟩)] w (fun e w' => e = .returned (.tuple #[]) ∧ But b w w' ∧ ∃ f, MtAt w' b op n v dn st (rightP op n v) f ∧ (rightP op n v = 0 → SaysG w' f op v w.heap.size)) := by
  have HT := Lib.hid hT
  have HL := Lib.hid hl
  have H := Lib.hid h
  obtain ⟨hlt, c0, c1, c2, _, _, c6, c7, fz⟩ := h
  obtain ⟨p, hp⟩ : ∃ p, rightP op n v = p := ⟨_, rfl⟩
  rw [hp]
  obtain ⟨q, hq⟩ : ∃ q, wrongP op n v = q := ⟨_, rfl⟩
  have HP := Lib.hid hp
  have HQ := Lib.hid hq
  have hW : Hid (∀ W, W = w.alloc (.cells #[.int .i64 op, .string n, .string v] 26) → Below w.heap.size w W ∧ W.heap.size = w.heap.size + 1 ∧ W.cell? ⟨w.heap.size, 0, none⟩ = some (.int .i64 op) ∧ W.cell? ⟨w.heap.size, 1, none⟩ = some (.string n) ∧ W.cell? ⟨w.heap.size, 2, none⟩ = some (.string v)) := by
    rintro W rfl
    exact ⟨(Below.refl _ _).alloc (Nat.le_refl _) _, by simp, by simp, by simp, by simp⟩
  clear hT fz c6 c7 hl hp
  go_enter Tryz.func15, Tryz.ntmps15
  go_wp2_with fail
  generalize hWe : w.alloc (.cells #[.int .i64 op, .string n, .string v] 26) = W at *
  obtain ⟨hbW, hszW, d0, d1, d2⟩ := hW.out W rfl
  clear hW hWe c0 c1 c2
  have HBW := Lib.hid hbW
  clear hbW
  refine (wrong_any W op n v (Utf8Tabs_below HT.out HBW.out) hn hv).mono ?_
  rintro e w2 ⟨rfl, hb2⟩
  rw [hq]
  clear hq
  have HB2 := Lib.hid (HBW.out.trans (hb2.mono (by omega)))
  have e0 : w2.cell? ⟨w.heap.size, 0, none⟩ = some (.int .i64 op) := (hb2.cell (p := ⟨w.heap.size, 0, none⟩) (by show w.heap.size < W.heap.size; omega)).trans d0
  have e2 : w2.cell? ⟨w.heap.size, 2, none⟩ = some (.string v) := (hb2.cell (p := ⟨w.heap.size, 2, none⟩) (by show w.heap.size < W.heap.size; omega)).trans d2
  have hsz2 := hb2.size
  have h22 := H.out.like (HB2.out.block b hlt) HB2.out.size
  clear hb2 d0 d1 d2
  have k6 := h22.c6
  have kz := h22.fz 6
  have hn1 : ¬ b = w.heap.size := by omega
  have hn2 : ¬ w.heap.size = w2.heap.size := by omega
  have hn3 : ¬ b = w2.heap.size := by omega
  have H22 := Lib.hid h22
  have k7 := h22.c7
  have kz7 := h22.fz 7
  clear h22
  by_cases hq0 : q = 0
  · subst hq0
    obtain ⟨o1, o2, _⟩ := wrongP_ok HQ.out
    have hS : Hid (∀ x o, ((w2.setCell ⟨b, 6, none⟩ (.int .i64 x)).alloc o).heap.size = w2.heap.size + 1 ∧ ((w2.setCell ⟨b, 6, none⟩ (.int .i64 x)).alloc o).cell? ⟨w.heap.size, 0, none⟩ = some (.int .i64 op) ∧ ((w2.setCell ⟨b, 6, none⟩ (.int .i64 x)).alloc o).cell? ⟨w.heap.size, 2, none⟩ = some (.string v) ∧ MtAt ((w2.setCell ⟨b, 6, none⟩ (.int .i64 x)).alloc o) b op n v dn st x says ∧ But b w ((w2.setCell ⟨b, 6, none⟩ (.int .i64 x)).alloc o)) := fun x o => by
      refine ⟨by simp [World.setCell], ?_, ?_, (H22.out.set6 x).alloc o, ((But.of HB2.out).set 6 _).alloc _⟩
      · rw [World.cell?_alloc_past _ _ _ (by simp [World.setCell]; omega)]
        exact (World.cell?_setCell_other _ ⟨b, 6, none⟩ ⟨w.heap.size, 0, none⟩ _ (fun e => by injection e; omega)).trans e0
      · rw [World.cell?_alloc_past _ _ _ (by simp [World.setCell]; omega)]
        exact (World.cell?_setCell_other _ ⟨b, 6, none⟩ ⟨w.heap.size, 2, none⟩ _ (fun e => by injection e; omega)).trans e2
    have gen : Hid (∀ (X : World) (x : Value) (t : TypeId), (X.alloc (.cells #[x] t)).cell? ⟨X.heap.size, 0, none⟩ = some x) := fun X x t => by simp
    have hs6 : Hid (∀ x, (w2.setCell ⟨b, 6, none⟩ (.int .i64 x)).heap.size = w2.heap.size) := fun x => by simp [World.setCell]
    by_cases ho : op ≤ 2
    · have HP2 : Hid (p = 0) := by
        have := HP.out
        unfold rightP at this
        rw [HQ.out, if_pos rfl, if_pos ho] at this
        exact this.symm
      have hW4 : Hid (∀ W4 f, W4 = ((w2.setCell ⟨b, 6, none⟩ (.int .i64 0)).alloc (.cells #[.bool (op == 2)] 4)).setCell ⟨b, 7, none⟩ f → f = .func (.func 26) #[] #[.pointer (some ⟨w.heap.size, 0, none⟩), .pointer (some ⟨w2.heap.size, 0, none⟩)] → But b w W4 ∧ ∃ f, MtAt W4 b op n v dn st p f ∧ (p = 0 → SaysG W4 f op v w.heap.size)) := by
        rintro W4 f rfl hf
        obtain ⟨z1, z2, z3, z4, z5⟩ := hS.out 0 (.cells #[.bool (op == 2)] 4)
        have z6 : ((w2.setCell ⟨b, 6, none⟩ (.int .i64 0)).alloc (.cells #[.bool (op == 2)] 4)).cell? ⟨w2.heap.size, 0, none⟩ = some (.bool (op == 2)) := by
          have := gen.out (w2.setCell ⟨b, 6, none⟩ (.int .i64 0)) (.bool (op == 2)) 4
          rwa [hs6.out] at this
        refine ⟨z5.set 7 _, f, by rw [HP2.out]; exact z4.set7 f, fun _ => .inl ⟨ho, _, _, hf, Nat.le_refl _, by omega, by rw [setCell_size, z1]; omega, by rw [setCell_size, z1]; omega, ?_, ?_⟩⟩
        · exact (World.cell?_setCell_other _ ⟨b, 7, none⟩ ⟨w.heap.size, 2, none⟩ _ (fun e => by injection e; omega)).trans z3
        · exact (World.cell?_setCell_other _ ⟨b, 7, none⟩ ⟨w2.heap.size, 0, none⟩ _ (fun e => by injection e; omega)).trans z6
      clear k7 kz7
      have hop : op = 1 ∨ op = 2 := by omega
      rcases hop with rfl | rfl
      · have ⟨_, q1, _, q2, _⟩ := hS.out 0 (.cells #[.bool false] 4)
        have q3 := q2.c7
        have q4 := q2.fz 7
        clear q2
        go_wp2_with fail
        refine bodyPost_ret (results_none rfl _ _ _) rfl ?_
        exact ⟨rfl, hW4.out _ _ rfl rfl⟩
      · have ⟨_, q1, _, q2, _⟩ := hS.out 0 (.cells #[.bool true] 4)
        have q3 := q2.c7
        have q4 := q2.fz 7
        clear q2
        go_wp2_with fail
        refine bodyPost_ret (results_none rfl _ _ _) rfl ?_
        exact ⟨rfl, hW4.out _ _ rfl rfl⟩
    · have hop : op = 3 ∨ op = 4 := by omega
      clear k7 kz7
      rcases hop with rfl | rfl
      · have ⟨q0, q1, q5, q2, q6⟩ := hS.out 0 (.cells #[.bool false] 4)
        have q7 : ((w2.setCell ⟨b, 6, none⟩ (.int .i64 0)).alloc (.cells #[.bool false] 4)).cell? ⟨w2.heap.size, 0, none⟩ = some (.bool false) := by
          have := gen.out (w2.setCell ⟨b, 6, none⟩ (.int .i64 0)) (.bool false) 4
          rwa [hs6.out] at this
        have q3 := q2.c7
        have q4 := q2.fz 7
        have Q6 := Lib.hid q6
        have Q2 := Lib.hid q2
        have Q0 := Lib.hid q0
        have Q7 := Lib.hid q7
        clear q2 q0 q6 q7
        go_wp2_with fail
        refine (compile_any _ v (tabs_but HT.out Q6.out hbb hz) (by rw [Q0.out]; omega) (HL.out (by decide))).mono ?_
        generalize ((w2.setCell ⟨b, 6, none⟩ (.int .i64 0)).alloc (.cells #[.bool false] 4)) = W3 at *
        rintro e w4 hr
        rcases hx : compileP v with ⟨en, pl⟩ | r
        · rw [hx] at hr
          obtain ⟨rfl, hb4⟩ := hr
          have hen : en ≠ 0 := compileP_er hx
          have HP2 : Hid (p = en) := by
            have := HP.out
            unfold rightP at this
            rw [HQ.out, if_pos rfl, if_neg (by omega), hx] at this
            exact this.symm
          have h4 := (Q2.out.like (hb4.block b Q2.out.lt) hb4.size).alloc (.cells #[.pointer none] 74)
          have H4 := Lib.hid h4
          have HB4 := Lib.hid (Q6.out.trans (.of hb4))
          have d6 := h4.c6
          have d6z := h4.fz 6
          have h5 := h4.set6 en
          have H5 := Lib.hid h5
          have d7 := h5.c7
          have d7z := h5.fz 7
          clear h4 h5 hb4 q1 q5 q3 q4
          go_wp2_with fail
          go_end0
          refine ⟨rfl, ((HB4.out.alloc _).set 6 _).set 7 _, .func (.func 28) #[] #[.pointer (some ⟨w4.heap.size, 0, none⟩), .pointer (some ⟨w2.heap.size, 0, none⟩)], ?_, fun hp0 => absurd (HP2.out.symm.trans hp0) hen⟩
          rw [HP2.out]
          exact H5.out.set7 _
        · rw [hx] at hr
          obtain ⟨rb, c, K, C, g, ns, rfl, hR, hrb, hK, hb4⟩ := hr
          have HP2 : Hid (p = 0) := by
            have := HP.out
            unfold rightP at this
            rw [HQ.out, if_pos rfl, if_neg (by omega), hx] at this
            exact this.symm
          have h4 := (Q2.out.like (hb4.block b Q2.out.lt) hb4.size).alloc (.cells #[.pointer (some ⟨rb, 0, none⟩)] 74)
          have HB4 := Lib.hid (Q6.out.trans (.of hb4))
          have d6 := h4.c6
          have d6z := h4.fz 6
          have h5 := h4.set6 0
          have H5 := Lib.hid h5
          have d7 := h5.c7
          have d7z := h5.fz 7
          have HF := Lib.hid (make_end (f := .func (.func 28) #[] #[.pointer (some ⟨w4.heap.size, 0, none⟩), .pointer (some ⟨w2.heap.size, 0, none⟩)]) (w := w) (x := 0) (t := 74) rfl (HL.out (by decide) r hx) hx hR hrb Q7.out Q0.out hb4 (by omega) (by omega) (op := 3) (by decide) rfl)
          clear h4 h5 hb4 q1 q5 q3 q4 hR hK hrb hx
          go_wp2_with fail
          go_end0
          refine ⟨rfl, ((HB4.out.alloc _).set 6 _).set 7 _, _, ?_, fun _ => HF.out⟩
          rw [HP2.out]
          exact H5.out.set7 _
      · have ⟨q0, q1, q5, q2, q6⟩ := hS.out 0 (.cells #[.bool true] 4)
        have q7 : ((w2.setCell ⟨b, 6, none⟩ (.int .i64 0)).alloc (.cells #[.bool true] 4)).cell? ⟨w2.heap.size, 0, none⟩ = some (.bool true) := by
          have := gen.out (w2.setCell ⟨b, 6, none⟩ (.int .i64 0)) (.bool true) 4
          rwa [hs6.out] at this
        have q3 := q2.c7
        have q4 := q2.fz 7
        have Q6 := Lib.hid q6
        have Q2 := Lib.hid q2
        have Q0 := Lib.hid q0
        have Q7 := Lib.hid q7
        clear q2 q0 q6 q7
        go_wp2_with fail
        refine (compile_any _ v (tabs_but HT.out Q6.out hbb hz) (by rw [Q0.out]; omega) (HL.out (by decide))).mono ?_
        generalize ((w2.setCell ⟨b, 6, none⟩ (.int .i64 0)).alloc (.cells #[.bool true] 4)) = W3 at *
        rintro e w4 hr
        rcases hx : compileP v with ⟨en, pl⟩ | r
        · rw [hx] at hr
          obtain ⟨rfl, hb4⟩ := hr
          have hen : en ≠ 0 := compileP_er hx
          have HP2 : Hid (p = en) := by
            have := HP.out
            unfold rightP at this
            rw [HQ.out, if_pos rfl, if_neg (by omega), hx] at this
            exact this.symm
          have h4 := (Q2.out.like (hb4.block b Q2.out.lt) hb4.size).alloc (.cells #[.pointer none] 74)
          have H4 := Lib.hid h4
          have HB4 := Lib.hid (Q6.out.trans (.of hb4))
          have d6 := h4.c6
          have d6z := h4.fz 6
          have h5 := h4.set6 en
          have H5 := Lib.hid h5
          have d7 := h5.c7
          have d7z := h5.fz 7
          clear h4 h5 hb4 q1 q5 q3 q4
          go_wp2_with fail
          go_end0
          refine ⟨rfl, ((HB4.out.alloc _).set 6 _).set 7 _, .func (.func 28) #[] #[.pointer (some ⟨w4.heap.size, 0, none⟩), .pointer (some ⟨w2.heap.size, 0, none⟩)], ?_, fun hp0 => absurd (HP2.out.symm.trans hp0) hen⟩
          rw [HP2.out]
          exact H5.out.set7 _
        · rw [hx] at hr
          obtain ⟨rb, c, K, C, g, ns, rfl, hR, hrb, hK, hb4⟩ := hr
          have HP2 : Hid (p = 0) := by
            have := HP.out
            unfold rightP at this
            rw [HQ.out, if_pos rfl, if_neg (by omega), hx] at this
            exact this.symm
          have h4 := (Q2.out.like (hb4.block b Q2.out.lt) hb4.size).alloc (.cells #[.pointer (some ⟨rb, 0, none⟩)] 74)
          have HB4 := Lib.hid (Q6.out.trans (.of hb4))
          have d6 := h4.c6
          have d6z := h4.fz 6
          have h5 := h4.set6 0
          have H5 := Lib.hid h5
          have d7 := h5.c7
          have d7z := h5.fz 7
          have HF := Lib.hid (make_end (f := .func (.func 28) #[] #[.pointer (some ⟨w4.heap.size, 0, none⟩), .pointer (some ⟨w2.heap.size, 0, none⟩)]) (w := w) (x := 0) (t := 74) rfl (HL.out (by decide) r hx) hx hR hrb Q7.out Q0.out hb4 (by omega) (by omega) (op := 4) (by decide) rfl)
          clear h4 h5 hb4 q1 q5 q3 q4 hR hK hrb hx
          go_wp2_with fail
          go_end0
          refine ⟨rfl, ((HB4.out.alloc _).set 6 _).set 7 _, _, ?_, fun _ => HF.out⟩
          rw [HP2.out]
          exact H5.out.set7 _
  · have hqb : (q == 0) = false := beq_eq_false_iff_ne.2 hq0
    have HP2 : Hid (p = q) := by
      have := HP.out
      unfold rightP at this
      rw [HQ.out, if_neg hq0] at this
      exact this.symm
    go_wp2_with fail
    refine bodyPost_ret (results_none rfl _ _ _) rfl ?_
    refine ⟨rfl, (But.of HB2.out).set 6 _, says, ?_, fun hp0 => absurd (HP2.out.symm.trans hp0) hq0⟩
    rw [HP2.out]
    exact H22.out.set6 q

end Go.Proofs.YtgcmjidphoklkaaGreatDoor.Ih

/- Walks over layer 6's matcher, of any operator: once, Right. -/
namespace Go.Proofs.YtgcmjidphoklkaaGreatDoor.Ih
open Go.RowKit Rx

set_option maxRecDepth 100000 in
set_option maxHeartbeats 2000000 in
theorem slow_g (w : World) (b : Nat) (op : Int) (n v : ByteArray) (why : Int) (says : Value) (hT : Lib.Utf8Tabs 0 1 w) (h2 : 2 ≤ b) (h : MtAt w b op n v 0 0 why says)
    (hn : n.size ≤ 140737488355328) (hv : v.size ≤ 140737488355328) (hl : 3 ≤ op → LenOk v) :
    Calls Tryz.prog 24 #[.pointer (some ⟨b, 3, none⟩), makeFn b] w (fun e w' => e = .returned (.tuple #[]) ∧ But b w w' ∧ ∃ f, MtAt w' b op n v 1 0 (rightP op n v) f ∧ (rightP op n v = 0 → SaysG w' f op v w.heap.size)) := by
  have HL := Lib.hid hl
  have HT := Lib.hid hT
  have h1 := h.set4 1
  have H1 := Lib.hid h1
  have c4 := h.c4
  have z4 := h.fz 4
  have d3 := h1.c3
  have hlt0 := h.lt
  have hb1 : But b w (w.setCell ⟨b, 4, none⟩ (.int .i32 1)) := (But.refl b w).set 4 _
  have HB1 := Lib.hid hb1
  have hs1 : (w.setCell ⟨b, 4, none⟩ (.int .i32 1)).heap.size = w.heap.size := by simp [World.setCell]
  have HS1 := Lib.hid hs1
  have hnot : ∀ (x : Bool) (w : World), (Op.unary .not (.bool x)).run Tryz.prog w = .ok (.bool (!x)) w := fun _ _ => rfl
  obtain ⟨p, hp⟩ : ∃ p, rightP op n v = p := ⟨_, rfl⟩
  rw [hp]
  have HP := Lib.hid hp
  clear hT h h1 hb1 hs1 hl hp
  go_enter_defers Tryz.func24, Tryz.ntmps24
  go_wp2_with fail
  refine (lock_free ⟨b, 4, none⟩ w c4 z4).mono ?_
  rintro e w1 ⟨rfl, rfl⟩
  go_wp2_with fail
  refine (load_any ⟨b, 3, none⟩ 0 _ d3).mono ?_
  rintro e w1 ⟨rfl, rfl⟩
  generalize w.setCell ⟨b, 4, none⟩ (.int .i32 1) = W1 at *
  go_wp2_with fail
  have hlt := H1.out.lt
  refine (make_g W1 b op n v 0 1 why says (tabs_but HT.out HB1.out h2 (by omega)) (by omega) h2 H1.out hn hv HL.out).mono ?_
  rintro e w2 ⟨rfl, hb2, f, h3, hs3⟩
  have HB2 := Lib.hid (HB1.out.trans hb2)
  rw [HP.out] at h3 hs3
  have HSY : Hid (p = 0 → SaysG w2 f op v w.heap.size) := fun h0 => (hs3 h0).mono (Nat.le_of_eq HS1.out.symm)
  have H3 := Lib.hid h3
  clear hb2 hs3 h3 d3 c4 z4
  go_wp2_with fail
  refine leaves_cons (f := 39) (args := #[.pointer (some ⟨b, 3, none⟩), .bool true]) (by simp) (by simp [go_sem]) ?_
  refine (store_deferred ⟨b, 3, none⟩ (.int .u32 0) .returning _ H3.out.c3 (H3.out.fz 3)).mono ?_
  rintro e u' w3 ⟨rfl, rfl, rfl⟩
  have h4 := H3.out.drew.set3 1
  refine leaves_cons (f := 38) (args := #[.pointer (some ⟨b, 4, none⟩)]) (by simp [settle]) (by simp [go_sem]) ?_
  refine (unlock_deferred ⟨b, 4, none⟩ _ _ h4.c4 (h4.fz 4)).mono ?_
  rintro e u' w4 ⟨rfl, rfl, rfl⟩
  have hb5 : But b w2 ((w2.drew.setCell ⟨b, 3, none⟩ (.int .u32 1)).setCell ⟨b, 4, none⟩ (.int .i32 0)) := (((But.refl b w2).drew).set 3 _).set 4 _
  have hfin := HB2.out.trans hb5
  have hsf : p = 0 → SaysG ((w2.drew.setCell ⟨b, 3, none⟩ (.int .u32 1)).setCell ⟨b, 4, none⟩ (.int .i32 0)) f op v w.heap.size := fun h0 => (HSY.out h0).but hb5 hlt0
  have h5 := h4.set4 0
  simp [Leaves, settle, results, Tryz.results24]
  exact ⟨hfin, f, h5, hsf⟩

set_option maxRecDepth 100000 in
theorem first_g (w : World) (b : Nat) (op : Int) (n v : ByteArray) (why : Int) (says : Value) (hT : Lib.Utf8Tabs 0 1 w) (h2 : 2 ≤ b) (h : MtAt w b op n v 0 0 why says)
    (hn : n.size ≤ 140737488355328) (hv : v.size ≤ 140737488355328) (hl : 3 ≤ op → LenOk v) :
    Calls Tryz.prog 14 #[.pointer (some ⟨b, 3, none⟩), makeFn b] w (fun e w' => e = .returned (.tuple #[]) ∧ But b w w' ∧ ∃ f, MtAt w' b op n v 1 0 (rightP op n v) f ∧ (rightP op n v = 0 → SaysG w' f op v w.heap.size)) := by
  have c3 := h.c3
  have HC := Lib.hid (slow_g w b op n v why says hT h2 h hn hv hl)
  have hnot : ∀ (x : Bool) (w : World), (Op.unary .not (.bool x)).run Tryz.prog w = .ok (.bool (!x)) w := fun _ _ => rfl
  clear h hT hl
  generalize rightP op n v = p at *
  go_enter Tryz.func14, Tryz.ntmps14
  go_wp2_with fail
  refine (load_any ⟨b, 3, none⟩ 0 _ c3).mono ?_
  rintro e w1 ⟨rfl, rfl⟩
  go_wp2_with fail
  refine HC.out.mono ?_
  rintro e w2 ⟨rfl, hb⟩
  have HB := Lib.hid hb
  clear hb HC
  go_wp2_with fail
  go_end0
  exact ⟨rfl, HB.out⟩

/-- A matcher in memory, asked or not; what its function value hangs on lies from B on. -/
def MtG (w : World) (b : Nat) (op : Int) (n v : ByteArray) (B : Nat) : Prop :=
  b < B ∧ B ≤ w.heap.size ∧ ((∃ why says, MtAt w b op n v 0 0 why says) ∨ ∃ f, MtAt w b op n v 1 0 (rightP op n v) f ∧ (rightP op n v = 0 → SaysG w f op v B))

theorem MtG.name {w : World} {b B : Nat} {op : Int} {n v : ByteArray} (h : MtG w b op n v B) : w.cell? ⟨b, 1, none⟩ = some (.string n) :=
  h.2.2.elim (fun ⟨_, _, h⟩ => h.c1) (fun ⟨_, h, _⟩ => h.c1)

/-- Another block below B may turn. -/
theorem MtG.but {w w' : World} {b B k : Nat} {op : Int} {n v : ByteArray} (h : MtG w b op n v B) (hb : But k w w') (hk : k < B) (hne : k ≠ b) : MtG w' b op n v B :=
  have hbk : w'.heap[b]? = w.heap[b]? := hb.block b (by have := h.1; have := h.2.1; omega) (fun e => hne e.symm)
  ⟨h.1, Nat.le_trans h.2.1 hb.size, h.2.2.imp (fun ⟨y, f, q⟩ => ⟨y, f, q.like hbk hb.size⟩) (fun ⟨f, q, s⟩ => ⟨f, q.like hbk hb.size, fun h0 => (s h0).but hb hk⟩)⟩

theorem MtG.below {w w' : World} {b B : Nat} {op : Int} {n v : ByteArray} (h : MtG w b op n v B) (hb : Below w.heap.size w w') : MtG w' b op n v B :=
  ⟨h.1, Nat.le_trans h.2.1 hb.size, h.2.2.imp (fun ⟨y, f, q⟩ => ⟨y, f, q.like (hb.block b (by have := h.1; have := h.2.1; omega)) hb.size⟩) (fun ⟨f, q, s⟩ => ⟨f, q.like (hb.block b (by have := h.1; have := h.2.1; omega)) hb.size, fun h0 => (s h0).up (fun k _ h2 => hb.block k h2) hb.size⟩)⟩

/-- Nobody has asked it yet: it may be asked later. -/
theorem MtG.fresh {w : World} {b B : Nat} {op : Int} {n v : ByteArray} {why : Int} {says : Value} (h : MtAt w b op n v 0 0 why says) (hb : b < B) (hB : B ≤ w.heap.size) : MtG w b op n v B := ⟨hb, hB, .inl ⟨_, _, h⟩⟩

/-- What can be asked of a matcher without running out of memory. -/
structure GOk (op : Int) (n v : ByteArray) : Prop where
  ns : n.size ≤ 140737488355328
  vs : v.size ≤ 140737488355328
  len : 3 ≤ op → LenOk v

set_option maxRecDepth 100000 in
theorem right_g (w : World) (b B : Nat) (op : Int) (n v : ByteArray) (hT : Lib.Utf8Tabs 0 1 w) (h2 : 2 ≤ b) (h : MtG w b op n v B) (ho : GOk op n v) :
    Calls Tryz.prog 6 #[.pointer (some ⟨b, 0, none⟩)] w (fun e w' => e = .returned (.int .i64 (rightP op n v)) ∧ But b w w' ∧ ∃ f, MtAt w' b op n v 1 0 (rightP op n v) f ∧ (rightP op n v = 0 → SaysG w' f op v B)) := by
  obtain ⟨hbB, hBw, ⟨why, says, h⟩ | ⟨f, h, hs⟩⟩ := h
  · have c0 := h.c0
    have HC : Hid (Calls Tryz.prog 14 #[.pointer (some ⟨b, 3, none⟩), makeFn b] w (fun e w' => e = .returned (.tuple #[]) ∧ But b w w' ∧ ∃ f, MtAt w' b op n v 1 0 (rightP op n v) f ∧ (rightP op n v = 0 → SaysG w' f op v B))) :=
      (first_g w b op n v why says hT h2 h ho.ns ho.vs ho.len).mono (fun e w' ⟨he, hb, f, h3, hs⟩ => ⟨he, hb, f, h3, fun h0 => (hs h0).mono hBw⟩)
    clear h hT
    generalize rightP op n v = p at *
    go_enter Tryz.func6, Tryz.ntmps6
    go_wp2_with fail
    refine HC.out.mono ?_
    rintro e w2 ⟨rfl, hb, f, h3, hs⟩
    have c6 := h3.c6
    have HB := Lib.hid hb
    have H3 := Lib.hid h3
    have HS := Lib.hid hs
    clear hb h3 hs c0 HC
    go_wp2_with fail
    go_ret
    exact ⟨rfl, HB.out, f, H3.out, HS.out⟩
  · have c0 := h.c0
    have c3 := h.c3
    have c6 := h.c6
    have H := Lib.hid h
    have HS := Lib.hid hs
    clear h hs hT
    generalize rightP op n v = p at *
    go_enter Tryz.func6, Tryz.ntmps6
    go_wp2_with fail
    refine (do_done w ⟨b, 3, none⟩ _ c3).mono ?_
    rintro e w2 ⟨rfl, rfl⟩
    go_wp2_with fail
    go_ret
    exact ⟨rfl, But.refl _ _, f, H.out, HS.out⟩

theorem MtG.done {w : World} {b B : Nat} {op : Int} {n v : ByteArray} {f : Value} (hb : b < B) (hB : B ≤ w.heap.size) (h : MtAt w b op n v 1 0 (rightP op n v) f) (hs : rightP op n v = 0 → SaysG w f op v B) : MtG w b op n v B := ⟨hb, hB, .inr ⟨f, h, hs⟩⟩

end Go.Proofs.YtgcmjidphoklkaaGreatDoor.Ih

/- Walks over layer 6's matcher, of any operator: Value, Labels, Empty. -/
namespace Go.Proofs.YtgcmjidphoklkaaGreatDoor.Ih
open Go.RowKit Rx

theorem says_e (w : World) (op : Int) (v x : ByteArray) (m t : Nat) (h7 : w.cell? ⟨m, 2, none⟩ = some (.string v)) (h8 : w.cell? ⟨t, 0, none⟩ = some (.bool (op == 2))) :
    Calls Tryz.prog 26 #[.string x, .pointer (some ⟨m, 0, none⟩), .pointer (some ⟨t, 0, none⟩)] w (fun e w' => e = .returned (.bool (mSays op v x)) ∧ w' = w) := by
  go_enter Tryz.func26, Tryz.ntmps26
  go_wp2_with fail
  go_ret
  exact ⟨rfl, rfl⟩

theorem says_r (w : World) (op : Int) (v x : ByteArray) (y t : Nat) {rb lw : Nat} {r : Re} {c : P9} {K C : List Nat} {g : Value} {ns : List NdM} (h7 : w.cell? ⟨y, 0, none⟩ = some (.pointer (some ⟨rb, 0, none⟩))) (h8 : w.cell? ⟨t, 0, none⟩ = some (.bool (op == 4)))
    (hy : y < w.heap.size) (ht : t < w.heap.size) (hR : RegexAt lw w rb r c K C g ns) (hc : compileP v = .ok r) (hlen : r.graph.2.length ≤ 1000000) (ho : 3 ≤ op) (hlw : lw < rb) :
    Calls Tryz.prog 28 #[.string x, .pointer (some ⟨y, 0, none⟩), .pointer (some ⟨t, 0, none⟩)] w (fun e w' => (∃ b : Bool, e = .returned (.bool b) ∧ SaidG op v x b) ∧ Below w.heap.size w w') := by
  have HC := Lib.hid hc
  have hRd : RegexAt lw w.drew rb r c K C g ns := hR.up (lo := 0) (Nat.zero_le _) (by omega) (fun _ _ _ => rfl) (Nat.le_refl _)
  have HM := Lib.hid (match_any w.drew rb r c K C g ns hRd (compileP_wf hc) x hlen)
  clear hc hR hRd
  obtain ⟨u, hu⟩ : ∃ u, (op == 4) = u := ⟨_, rfl⟩
  have HU := Lib.hid hu
  rw [hu] at h8
  clear hu
  go_enter Tryz.func28, Tryz.ntmps28
  go_wp2_with fail
  go_region_held3 (fun w' => w'.cell? ⟨y, 0, none⟩ = some (.pointer (some ⟨rb, 0, none⟩)) ∧ w'.cell? ⟨t, 0, none⟩ = some (.bool u))
    (first
      | go_keep
      | (go_split_ands
         exact ⟨(hb.cell (p := ⟨y, 0, none⟩) hy).trans (by assumption), (hb.cell (p := ⟨t, 0, none⟩) ht).trans (by assumption)⟩))
    ((go_at_call 29; refine HM.out.mono ?_; rintro e w2 ⟨hb, b, rfl, hbl⟩; have HBL := Lib.hid hbl; have HB := Lib.hid hb; clear hbl))
  go_wp2_with fail
  go_ret
  refine ⟨⟨_, rfl, fun h => by omega, fun _ => ?_⟩, ⟨HB.out.os, HB.out.tape, HB.out.output, HB.out.size, HB.out.block⟩⟩
  rw [HU.out]
  have e1 : (((b != u) != u) = true ↔ b = true) := by cases b <;> cases u <;> decide
  refine e1.trans (HBL.out.trans ⟨fun h => ⟨r, HC.out, h⟩, fun ⟨q, hq, h⟩ => ?_⟩)
  rw [HC.out] at hq
  cases hq
  exact h

/-- What Value says. -/
def ValSaid (op : Int) (n v x : ByteArray) (e : Ending) : Prop := ∃ r : Bool, e = .returned (.bool r) ∧ (rightP op n v ≠ 0 → r = false) ∧ (rightP op n v = 0 → SaidG op v x r)

set_option maxRecDepth 100000 in
set_option maxHeartbeats 1000000 in
theorem value_g (w : World) (b B : Nat) (op : Int) (n v x : ByteArray) (hT : Lib.Utf8Tabs 0 1 w) (h2 : 2 ≤ b) (h : MtG w b op n v B) (ho : GOk op n v) :
    Calls Tryz.prog 8 #[.pointer (some ⟨b, 0, none⟩), .string x] w (fun e w' => ValSaid op n v x e ∧ But b w w' ∧ MtG w' b op n v B) := by
  have hbB := h.1
  have hBw := h.2.1
  have HC := Lib.hid (right_g w b B op n v hT h2 h ho)
  clear h hT ho
  obtain ⟨p, hp⟩ : ∃ p, rightP op n v = p := ⟨_, rfl⟩
  rw [hp] at HC
  have HP := Lib.hid hp
  clear hp
  go_enter Tryz.func8, Tryz.ntmps8
  go_wp2_with fail
  refine HC.out.mono ?_
  rintro e w1 ⟨rfl, hb, f, h3, hs⟩
  clear HC
  have c7 := h3.c7
  have HB := Lib.hid hb
  have HM : Hid (MtG w1 b op n v B) := MtG.done hbB (Nat.le_trans hBw hb.size) (by rw [HP.out]; exact h3) (fun h0 => hs (HP.out.symm.trans h0))
  have hsz := hb.size
  by_cases hp0 : p = 0
  · have hsg := hs hp0
    subst hp0
    have hs' := hsg
    rcases hs' with ⟨ho2, m, t, rfl, h1', h2', h5, h6, h7, h8⟩ | ⟨ho3, y, t, rb, r, c, K, C, g, ns, lw, rfl, h1', h2', h5, h6, h7, h8, h9, h10, hR, hc, hlen⟩
    · clear hb h3 hs hsg
      have HCE := Lib.hid (says_e w1 op v x m t h7 h8)
      obtain ⟨r, hr⟩ : ∃ r, mSays op v x = r := ⟨_, rfl⟩
      rw [hr] at HCE
      have HR := Lib.hid hr
      clear h7 h8 hr
      go_wp2_with fail
      refine HCE.out.mono ?_
      rintro e w2 ⟨rfl, rfl⟩
      cases r <;> (go_wp2_with fail; go_ret; exact ⟨⟨_, rfl, fun hh => absurd HP.out hh, fun _ => ⟨fun _ => HR.out.symm, fun h => by omega⟩⟩, HB.out, HM.out⟩)
    · have HCE := Lib.hid (says_r w1 op v x y t h7 h8 h5 h6 hR hc hlen ho3 h10)
      clear hb h3 hs hsg hR hc h7 h8
      go_wp2_with fail
      refine HCE.out.mono ?_
      rintro e w2 ⟨⟨q, rfl, hq⟩, hb2⟩
      have HQ := Lib.hid hq
      have HB2 := Lib.hid (HB.out.trans (.of hb2))
      have HM2 := Lib.hid (HM.out.below hb2)
      clear hq hb2 HCE c7
      cases q <;> (go_wp2_with fail; go_ret; exact ⟨⟨_, rfl, fun hh => absurd HP.out hh, fun _ => HQ.out⟩, HB2.out, HM2.out⟩)
  · have hpb : (p == 0) = false := beq_eq_false_iff_ne.2 hp0
    clear hb h3 hs
    go_wp2_with fail
    go_ret
    exact ⟨⟨false, rfl, fun _ => rfl, fun h0 => absurd (HP.out.symm.trans h0) hp0⟩, HB.out, HM.out⟩

/-- What it means that a matcher matches a value. -/
def HoldsG (m : Mat) (x : ByteArray) : Prop :=
  (m.op ≤ 2 → ((x.toList == m.v.toList) != (m.op == 2)) = true) ∧ (m.op = 3 → ∃ q, compileP m.v = .ok q ∧ Re.L q (rnAt x 0)) ∧ (m.op = 4 → ¬ ∃ q, compileP m.v = .ok q ∧ Re.L q (rnAt x 0))

theorem holds_of {m : Mat} {x : ByteArray} {r : Bool} (h0 : rightP m.op m.n m.v = 0) (h : SaidG m.op m.v x r) : r = true ↔ HoldsG m x := by
  have hw : wrongP m.op m.n m.v = 0 := by
    unfold rightP at h0
    by_cases hq : wrongP m.op m.n m.v = 0
    · exact hq
    · rw [if_neg hq] at h0; exact absurd h0 hq
  obtain ⟨o1, o2, _⟩ := wrongP_ok hw
  obtain ⟨h1, h2⟩ := h
  unfold HoldsG
  have ho : m.op ≤ 2 ∨ m.op = 3 ∨ m.op = 4 := by omega
  rcases ho with ho | ho | ho
  · rw [h1 ho]
    exact ⟨fun hh => ⟨fun _ => hh, fun e => by omega, fun e => by omega⟩, fun hh => hh.1 ho⟩
  · have h3 := h2 (by omega)
    rw [ho] at h3
    have e : ((r != ((3 : Int) == 4)) = true ↔ r = true) := by cases r <;> decide
    exact ⟨fun hh => ⟨fun e => by omega, fun _ => h3.1 (e.2 hh), fun e => by omega⟩, fun hh => e.1 (h3.2 (hh.2.1 ho))⟩
  · have h3 := h2 (by omega)
    rw [ho] at h3
    have e : ((r != ((4 : Int) == 4)) = true ↔ ¬ r = true) := by cases r <;> decide
    refine ⟨fun hh => ⟨fun e => by omega, fun e => by omega, fun _ hex => e.1 (h3.2 hex) hh⟩, fun hh => ?_⟩
    cases r with
    | true => rfl
    | false => exact absurd (h3.1 (by decide)) (hh.2.2 ho)

end Go.Proofs.YtgcmjidphoklkaaGreatDoor.Ih
