/- Walks over strings.Replacer at layer 4's six texts: NewReplacer, build. -/
import Derived.Test.YteemciknbiloiaaGreatDoorIhC
import Derived.Maps.AppendAt
import Derived.Deep.AppendLies
import Derived.Deep.WholeRow
import Derived.Laws.IdiomStrings
namespace Go.Proofs.YteemciknbiloiaaGreatDoor.Ih
open Go.RowKit

attribute [local go_sem] run_store_one

abbrev rTexts : List Value := [.string ⟨#[92]⟩, .string ⟨#[92, 92]⟩, .string ⟨#[34]⟩, .string ⟨#[92, 34]⟩, .string ⟨#[10]⟩, .string ⟨#[92, 110]⟩]

theorem otherR {w : World} {b i k : Nat} {u : Value} {x : Option Value} (h : w.cell? ⟨b, k, none⟩ = x) (hn : i ≠ k) : (w.setCell ⟨b, i, none⟩ u).cell? ⟨b, k, none⟩ = x :=
  (World.cell?_setCell_other _ ⟨b, i, none⟩ ⟨b, k, none⟩ _ (fun e => hn (by injection e))).trans h

/-- A Replacer in memory. -/
structure RepAt (w : World) (b : Nat) (dn st : Int) (rv ov : Value) : Prop where
  lt : b < w.heap.size
  c0 : w.cell? ⟨b, 0, none⟩ = some (.int .u32 dn)
  c1 : w.cell? ⟨b, 1, none⟩ = some (.int .i32 st)
  c3 : w.cell? ⟨b, 3, none⟩ = some rv
  c4 : w.cell? ⟨b, 4, none⟩ = some ov
  fz : ∀ k, w.frozen? ⟨b, k, none⟩ = false

theorem RepAt.like {w w' : World} {b : Nat} {dn st : Int} {rv ov : Value} (h : RepAt w b dn st rv ov) (hb : w'.heap[b]? = w.heap[b]?) (hs : w.heap.size ≤ w'.heap.size) : RepAt w' b dn st rv ov := by
  have e : ∀ k, w'.cell? ⟨b, k, none⟩ = w.cell? ⟨b, k, none⟩ := fun k => World.cell?_of_block (w := w) (a := ⟨b, k, none⟩) hb
  exact ⟨Nat.lt_of_lt_of_le h.lt hs, (e 0).trans h.c0, (e 1).trans h.c1, (e 3).trans h.c3, (e 4).trans h.c4, fun k => (World.frozen?_of_block (w := w) (a := ⟨b, k, none⟩) hb).trans (h.fz k)⟩
theorem RepAt.set0 {w : World} {b : Nat} {dn st : Int} {rv ov : Value} (h : RepAt w b dn st rv ov) (x : Int) : RepAt (w.setCell ⟨b, 0, none⟩ (.int .u32 x)) b x st rv ov :=
  ⟨by simpa [World.setCell] using h.lt, World.cell?_setCell_same _ _ _ h.c0, otherR h.c1 (by decide), otherR h.c3 (by decide), otherR h.c4 (by decide), fun k => by simpa using h.fz k⟩
theorem RepAt.set1 {w : World} {b : Nat} {dn st : Int} {rv ov : Value} (h : RepAt w b dn st rv ov) (x : Int) : RepAt (w.setCell ⟨b, 1, none⟩ (.int .i32 x)) b dn x rv ov :=
  ⟨by simpa [World.setCell] using h.lt, otherR h.c0 (by decide), World.cell?_setCell_same _ _ _ h.c1, otherR h.c3 (by decide), otherR h.c4 (by decide), fun k => by simpa using h.fz k⟩
theorem RepAt.set3 {w : World} {b : Nat} {dn st : Int} {rv ov : Value} (h : RepAt w b dn st rv ov) (x : Value) : RepAt (w.setCell ⟨b, 3, none⟩ x) b dn st x ov :=
  ⟨by simpa [World.setCell] using h.lt, otherR h.c0 (by decide), otherR h.c1 (by decide), World.cell?_setCell_same _ _ _ h.c3, otherR h.c4 (by decide), fun k => by simpa using h.fz k⟩
theorem RepAt.set4 {w : World} {b : Nat} {dn st : Int} {rv ov : Value} (h : RepAt w b dn st rv ov) (x : Value) : RepAt (w.setCell ⟨b, 4, none⟩ x) b dn st rv x :=
  ⟨by simpa [World.setCell] using h.lt, otherR h.c0 (by decide), otherR h.c1 (by decide), otherR h.c3 (by decide), World.cell?_setCell_same _ _ _ h.c4, fun k => by simpa using h.fz k⟩
theorem RepAt.drew {w : World} {b : Nat} {dn st : Int} {rv ov : Value} (h : RepAt w b dn st rv ov) : RepAt w.drew b dn st rv ov := h.like rfl (Nat.le_refl _)

theorem make_three (w : World) : Sem.run Tryz.prog (Instr.makeSlice 31 (.int .i64 0) (.int .i64 3)) w = .ok (.slice (some ⟨w.heap.size, 0, none⟩) 0 3) (w.alloc (.cells #[.string ⟨#[]⟩, .string ⟨#[]⟩, .string ⟨#[]⟩] 9)) := by kernel_rfl

noncomputable def bsrCells (v : Value) : Array Value := (Tryz.zeroCells161.toList.set 256 v).toArray

theorem bsr_len : Tryz.zeroCells161.toList.length = 257 := by kernel_rfl
theorem bsr_take : Tryz.zeroCells161.toList.take 256 = List.replicate 256 (.slice none 0 0) := by kernel_rfl
theorem bsr_one : Tryz.zeroCells161.toList.all (·.oneCell') = true := by kernel_rfl

theorem store_bsr (w : World) (o : Obj) (v : Value) (hv : v.oneCell' = true) :
    Sem.run Tryz.prog (storeCells ⟨w.heap.size + 1, 0, none⟩ (Tryz.zeroCells161.toList.set 256 v)) ((w.alloc o).alloc (.cells Tryz.zeroCells161 161)) = .ok () ((w.alloc o).alloc (.cells (bsrCells v) 161)) := by
  have h := run_storeCells_new (P := Tryz.prog) (w.alloc o) 161 Tryz.zeroCells161 (bsrCells v) (by
    rw [show (bsrCells v).size = 257 by unfold bsrCells; rw [List.size_toArray, List.length_set]; exact bsr_len]
    kernel_rfl) (by
    rw [show (bsrCells v).size = 257 by unfold bsrCells; rw [List.size_toArray, List.length_set]; exact bsr_len]
    exact bsr_len) (by
    unfold bsrCells
    rw [List.all_toArray]
    refine List.all_eq_true.2 fun x hx => ?_
    rcases List.mem_or_eq_of_mem_set hx with hx | rfl
    · exact List.all_eq_true.1 bsr_one x hx
    · exact hv)
  rw [World.size_alloc] at h
  unfold bsrCells at h ⊢
  rwa [List.toList_toArray] at h

theorem bsr_nil (v : Value) (k : Nat) (hk : k < 256) : (bsrCells v)[k]? = some (.slice none 0 0) := by
  unfold bsrCells
  rw [List.getElem?_toArray, List.getElem?_set_ne (by omega)]
  have h : (Tryz.zeroCells161.toList.take 256)[k]? = some (.slice none 0 0) := by
    rw [bsr_take, List.getElem?_replicate, if_pos hk]
  rwa [List.getElem?_take, if_pos hk] at h

theorem bsr_last (v : Value) : (bsrCells v)[256]? = some v := by
  unfold bsrCells
  rw [List.getElem?_toArray, List.getElem?_set_self (by rw [bsr_len]; decide)]

/-- The six texts lie from g on. -/
def SixAt (w : World) (g : Nat) : Prop := g < w.heap.size ∧ ∀ (j : Nat) (u : Value), rTexts[j]? = some u → w.cell? ⟨g, j, none⟩ = some u

theorem infoStr : (Tryz.prog.info? 9).map (fun i => (i.zero, i.size, i.bytes)) = some (some (.string ⟨#[]⟩), 1, 16) := by kernel_rfl

set_option maxRecDepth 100000 in
theorem newReplacer_any (w : World) (g c : Nat) (hs : SixAt w g) :
    Calls Tryz.prog 37 #[.slice (some ⟨g, 0, none⟩) 6 c] w (fun e w' => ∃ r g' c', e = .returned (.pointer (some ⟨r, 0, none⟩)) ∧ Below w.heap.size w w' ∧ w.heap.size ≤ r ∧ RepAt w' r 0 0 .nilIface (.slice (some ⟨g', 0, none⟩) 6 c') ∧ SixAt w' g' ∧ g' < r) := by
  obtain ⟨i0, hi0, hz0, hz1, hz2⟩ := info_parts infoStr
  have HN : Hid (∀ (j : Nat) (u : Value), rTexts[j]? = some u → w.cell? ((⟨g, 0, none⟩ : Addr).add j) = some u) := by
    intro j u hj
    have := hs.2 j u hj
    rwa [show (⟨g, 0, none⟩ : Addr).add j = ⟨g, j, none⟩ by simp [Addr.add]; intro e; exact e.symm]
  have h0 := hs.2 0 _ rfl
  clear hs
  go_enter Tryz.func37, Tryz.ntmps37
  go_wp2_with (at_builtin; go_loud (refine wpList_append_lies _ rfl _ _ _ rfl w.heap.size 9 i0 _ 1 16 Tryz.underlying31 hi0 hz0 hz1 hz2 rfl (by omega) (.slice none 0 0) 0 [] rfl (World.ownsRow_nil _ _ _ _) ⟨g, 0, none⟩ 6 c rTexts rfl rfl HN.out (by intro u hu; simp at hu; rcases hu with rfl | rfl | rfl | rfl | rfl | rfl <;> rfl) (by omega) (by unfold maxLen; omega) (by omega) (by simp) w.heap.size (by simp) ?_))
  intro g1 cap1 w1 hown hgrow hat hgl
  have HB := Lib.hid ((Below.refl w.heap.size w).grown hgrow (Nat.le_refl _) (fun k hk => by cases hk))
  have HO := Lib.hid hown
  clear hown hgrow hat h0
  go_wp2_with fail
  go_ret
  have hW : ∀ W, W = w1.alloc (.cells #[.int .u32 0, .int .i32 0, .int .u32 0, .nilIface, .slice (some ⟨g1, 0, none⟩) 6 cap1] 117) → Below w1.heap.size w1 W ∧ RepAt W w1.heap.size 0 0 .nilIface (.slice (some ⟨g1, 0, none⟩) 6 cap1) := by
    rintro W rfl
    exact ⟨(Below.refl _ _).alloc (Nat.le_refl _) _, by simp, by simp, by simp, by simp, by simp, fun k => by simp⟩
  obtain ⟨hb2, hr⟩ := hW _ rfl
  refine ⟨w1.heap.size, g1, cap1, rfl, HB.out.trans (hb2.mono HB.out.size), HB.out.size, hr, ⟨Nat.lt_of_lt_of_le hgl hb2.size, fun j u hj => ?_⟩, hgl⟩
  refine (hb2.cell (p := ⟨g1, j, none⟩) hgl).trans ?_
  have hjl : j < 6 := by simpa using (List.getElem?_eq_some_iff.1 hj).1
  exact (HO.out.cellAt j (by omega)).trans hj

/-- What a table of replacements holds, of those in ds nothing said. -/
structure BsAt (W : World) (B m : Nat) (ds : List Nat) (tv : Value) (n : Nat) (xs : List Value) : Prop where
  lt : m < W.heap.size
  le : B ≤ m
  nil : ∀ k, k < 256 → k ∉ ds → W.cell? ⟨m, k, none⟩ = some (.slice none 0 0)
  has : ∀ k, k < 256 → ∃ v, W.cell? ⟨m, k, none⟩ = some v
  top : W.cell? ⟨m, 256, none⟩ = some tv
  fz : ∀ k, W.frozen? ⟨m, k, none⟩ = false
  own : W.ownsRow B 9 1 tv n xs
  ne : tv.ownBlock ≠ some m

theorem BsAt.store {W W1 : World} {B m : Nat} {ds : List Nat} {tv tv1 : Value} {n n1 : Nat} {xs xs1 : List Value} (h : BsAt W B m ds tv n xs) (hb : W1.heap[m]? = W.heap[m]?) (hs : W.heap.size ≤ W1.heap.size) (ho : W1.ownsRow B 9 1 tv1 n1 xs1) (hne : tv1.ownBlock ≠ some m) :
    BsAt (W1.setCell ⟨m, 256, none⟩ tv1) B m ds tv1 n1 xs1 := by
  have e : ∀ k, W1.cell? ⟨m, k, none⟩ = W.cell? ⟨m, k, none⟩ := fun k => World.cell?_of_block (w := W) (a := ⟨m, k, none⟩) hb
  refine ⟨by simpa [World.setCell] using Nat.lt_of_lt_of_le h.lt hs, h.le, fun k hk hd => otherR ((e k).trans (h.nil k hk hd)) (by omega), fun k hk => ?_, World.cell?_setCell_same _ _ _ ((e 256).trans h.top), fun k => ?_, ?_, hne⟩
  · obtain ⟨v, hv⟩ := h.has k hk
    exact ⟨v, otherR ((e k).trans hv) (by omega)⟩
  · rw [World.frozen?_setCell]
    exact (World.frozen?_of_block (w := W) (a := ⟨m, k, none⟩) hb).trans (h.fz k)
  · exact ho.kept (row := some m) ⟨rfl, rfl, rfl, by simp [World.setCell], fun k hk hn => Below.heap_setCell _ _ _ _ (fun e => hn (by rw [e]))⟩ (by
      cases hv : tv1.ownBlock with
      | none => simp
      | some q => exact .inr (fun e => hne (by rw [hv]; exact e.symm ▸ rfl)))

theorem grownR {w w' : World} (h : Below w.heap.size w w') : w.grownBy w' none := ⟨h.os, h.tape, h.output, h.size, fun k hk _ => h.block k hk⟩

theorem BsAt.below {W W1 : World} {B m : Nat} {ds : List Nat} {tv : Value} {n : Nat} {xs : List Value} (h : BsAt W B m ds tv n xs) (hb : Below W.heap.size W W1) : BsAt W1 B m ds tv n xs :=
  have e : ∀ k, W1.cell? ⟨m, k, none⟩ = W.cell? ⟨m, k, none⟩ := fun k => World.cell?_of_block (w := W) (a := ⟨m, k, none⟩) (hb.block m h.lt)
  ⟨Nat.lt_of_lt_of_le h.lt hb.size, h.le, fun k hk hd => (e k).trans (h.nil k hk hd), fun k hk => (h.has k hk).imp fun _ q => (e k).trans q, (e 256).trans h.top,
    fun k => (World.frozen?_of_block (w := W) (a := ⟨m, k, none⟩) (hb.block m h.lt)).trans (h.fz k), h.own.kept (grownR hb) (by cases tv.ownBlock <;> simp), h.ne⟩

theorem BsAt.set {W : World} {B m : Nat} {ds : List Nat} {tv : Value} {n : Nat} {xs : List Value} (h : BsAt W B m ds tv n xs) (c : Nat) (hc : c < 256) (v : Value) : BsAt (W.setCell ⟨m, c, none⟩ v) B m (c :: ds) tv n xs := by
  refine ⟨by simpa [World.setCell] using h.lt, h.le, fun k hk hd => otherR (h.nil k hk (fun e => hd (List.mem_cons_of_mem _ e))) (fun e => hd (by rw [e]; exact List.mem_cons_self)), fun k hk => ?_, otherR h.top (by omega), fun k => ?_, ?_, h.ne⟩
  · obtain ⟨x, hx⟩ := h.has k hk
    by_cases e : c = k
    · subst e
      exact ⟨v, World.cell?_setCell_same _ _ _ hx⟩
    · exact ⟨x, otherR hx e⟩
  · rw [World.frozen?_setCell]; exact h.fz k
  · exact h.own.kept (row := some m) ⟨rfl, rfl, rfl, by simp [World.setCell], fun k hk hn => Below.heap_setCell _ _ _ _ (fun e => hn (by rw [e]))⟩ (by
      cases hv : tv.ownBlock with
      | none => simp
      | some q => exact .inr (fun e => h.ne (by rw [hv]; exact e.symm ▸ rfl)))

theorem back_one (w : World) (c : UInt8) : Sem.run Tryz.prog (convert 80 9 (.slice (some ⟨w.heap.size, 0, none⟩) 1 1)) (w.alloc (.cells #[.int .u8 c.toNat] 5)) = .ok (.string ⟨#[c]⟩) (w.alloc (.cells #[.int .u8 c.toNat] 5)) :=
  run_convert_bytes_back (P := Tryz.prog) _ 80 9 5 ⟨w.heap.size, 0, none⟩ 1 [c] Tryz.underlying80 Tryz.underlying5 Tryz.underlying9 (fun j hj => by
    have hj0 : j = 0 := by simp at hj; omega
    subst hj0
    simp [Addr.add])

/-- The table that build makes: of no text but the three something stands in it. -/
def BsrAt (w : World) (m : Nat) : Prop := m < w.heap.size ∧ (∃ g cap, w.cell? ⟨m, 256, none⟩ = some (.slice (some ⟨g, 0, none⟩) 3 cap)) ∧ ∀ k, k < 256 → k ≠ 92 → k ≠ 34 → k ≠ 10 → w.cell? ⟨m, k, none⟩ = some (.slice none 0 0)

theorem BsrAt.like {w w' : World} {m : Nat} (h : BsrAt w m) (hb : w'.heap[m]? = w.heap[m]?) (hs : w.heap.size ≤ w'.heap.size) : BsrAt w' m := by
  have e : ∀ k, w'.cell? ⟨m, k, none⟩ = w.cell? ⟨m, k, none⟩ := fun k => World.cell?_of_block (w := w) (a := ⟨m, k, none⟩) hb
  obtain ⟨h1, ⟨g, c, h2⟩, h3⟩ := h
  exact ⟨Nat.lt_of_lt_of_le h1 hs, ⟨g, c, (e 256).trans h2⟩, fun k a b c d => (e k).trans (h3 k a b c d)⟩

/-- One round of build's last loop. -/
theorem bs_round {w W W1 : World} {m n N g1 cap1 : Nat} {ds : List Nat} {tv : Value} {xs ys : List Value} {o1 o2 : Obj} (c : Nat) (hc : c < 256) (hb : Below w.heap.size w W) (h : BsAt W w.heap.size m ds tv n xs)
    (hown : W1.ownsRow w.heap.size 9 1 (.slice (some ⟨g1, 0, none⟩) N cap1) N ys) (hgrow : ((W.alloc o1).alloc o2).grownBy W1 tv.ownBlock) (hat : tv.ownBlock = some g1 ∨ g1 = W.heap.size + 2) :
    W1.cell? ⟨m, 256, none⟩ = some tv ∧ W1.frozen? ⟨m, 256, none⟩ = false ∧
    (∀ s : ByteArray, ∃ u, (Lib.bytesWorld (W1.setCell ⟨m, 256, none⟩ (.slice (some ⟨g1, 0, none⟩) N cap1)) 5 s).cell? ⟨m, c, none⟩ = some u) ∧
    (∀ s : ByteArray, (Lib.bytesWorld (W1.setCell ⟨m, 256, none⟩ (.slice (some ⟨g1, 0, none⟩) N cap1)) 5 s).frozen? ⟨m, c, none⟩ = false) ∧
    (∀ (s : ByteArray) (v : Value), Below w.heap.size w ((Lib.bytesWorld (W1.setCell ⟨m, 256, none⟩ (.slice (some ⟨g1, 0, none⟩) N cap1)) 5 s).setCell ⟨m, c, none⟩ v) ∧
      BsAt ((Lib.bytesWorld (W1.setCell ⟨m, 256, none⟩ (.slice (some ⟨g1, 0, none⟩) N cap1)) 5 s).setCell ⟨m, c, none⟩ v) w.heap.size m (c :: ds) (.slice (some ⟨g1, 0, none⟩) N cap1) N ys) := by
  have hA : Below W.heap.size W ((W.alloc o1).alloc o2) := ((Below.refl _ _).alloc (Nat.le_refl _) _).alloc (by simp) _
  have hs1 := hgrow.size
  have hsA := hA.size
  have hm := h.lt
  have hne : (Value.slice (some ⟨g1, 0, none⟩) N cap1).ownBlock ≠ some m := by
    intro e
    have e' : g1 = m := by simpa [Value.ownBlock] using e
    rcases hat with q | q
    · exact h.ne (by rw [q, e'])
    · omega
  have hblk : W1.heap[m]? = W.heap[m]? := (hgrow.block m (by omega) (fun e => h.ne e.symm)).trans (hA.block m hm)
  have hB1 : Below w.heap.size w W1 := (hb.trans (hA.mono hb.size)).grown hgrow (Nat.le_trans hb.size hsA) (fun k hk => (h.own.lt k hk).1)
  have hS1 := h.store hblk (Nat.le_trans hsA hs1) hown hne
  have hB2 : Below w.heap.size w (W1.setCell ⟨m, 256, none⟩ (.slice (some ⟨g1, 0, none⟩) N cap1)) := hB1.setCell (p := ⟨m, 256, none⟩) h.le _
  have hle2 : w.heap.size ≤ (W1.setCell ⟨m, 256, none⟩ (.slice (some ⟨g1, 0, none⟩) N cap1)).heap.size := hB2.size
  refine ⟨(World.cell?_of_block (w := W) (a := ⟨m, 256, none⟩) hblk).trans h.top, (World.frozen?_of_block (w := W) (a := ⟨m, 256, none⟩) hblk).trans (h.fz 256), fun s => ?_, fun s => ?_, fun s v => ?_⟩
  · exact (hS1.below (below_bytes _ _ s)).has c hc
  · exact (hS1.below (below_bytes _ _ s)).fz c
  · exact ⟨(hB2.trans ((below_bytes _ _ s).mono hle2)).setCell (p := ⟨m, c, none⟩) h.le _, (hS1.below (below_bytes _ _ s)).set c hc v⟩

set_option maxRecDepth 100000 in
set_option maxHeartbeats 2000000 in
theorem build_any (w : World) (r g c : Nat) (rv : Value) (st : Int) (h : RepAt w r 0 st rv (.slice (some ⟨g, 0, none⟩) 6 c)) (hs : SixAt w g) :
    Calls Tryz.prog 64 #[.pointer (some ⟨r, 0, none⟩)] w (fun e w' => ∃ m, e = .returned (.iface 162 (.pointer (some ⟨m, 0, none⟩))) ∧ Below w.heap.size w w' ∧ w.heap.size ≤ m ∧ BsrAt w' m) := by
  have r4 := h.c4
  have hmk := make_three
  have hst := store_bsr w (.cells #[.string ⟨#[]⟩, .string ⟨#[]⟩, .string ⟨#[]⟩] 9) (.slice (some ⟨w.heap.size, 0, none⟩) 0 3) rfl
  have h0 := hs.2 0 _ rfl
  have h1 := hs.2 1 _ rfl
  have h2 := hs.2 2 _ rfl
  have h3 := hs.2 3 _ rfl
  have h4 := hs.2 4 _ rfl
  have h5 := hs.2 5 _ rfl
  have hg := hs.1
  clear h hs
  go_enter Tryz.func64, Tryz.ntmps64
  go_wp2_with fail
  refine wp_loop_rounds 4 ?_
  rw [rounds_succ]
  go_wp2_with fail
  rw [rounds_succ]
  go_wp2_with fail
  rw [rounds_succ]
  go_wp2_with fail
  rw [rounds_succ]
  go_wp2_with fail
  have hW : ∀ W, W = (w.alloc (.cells #[.string ⟨#[]⟩, .string ⟨#[]⟩, .string ⟨#[]⟩] 9)).alloc (.cells (bsrCells (.slice (some ⟨w.heap.size, 0, none⟩) 0 3)) 161) → Below w.heap.size w W ∧ BsAt W w.heap.size (w.heap.size + 1) [] (.slice (some ⟨w.heap.size, 0, none⟩) 0 3) 0 [] := by
    rintro W rfl
    refine ⟨((Below.refl _ _).alloc (Nat.le_refl _) _).alloc (by simp) _, ?_⟩
    have hz : (w.alloc (.cells #[.string ⟨#[]⟩, .string ⟨#[]⟩, .string ⟨#[]⟩] 9)).heap.size = w.heap.size + 1 := by simp
    have hn : ∀ (k : Nat) (u : Value), (bsrCells (.slice (some ⟨w.heap.size, 0, none⟩) 0 3))[k]? = some u → ((w.alloc (.cells #[.string ⟨#[]⟩, .string ⟨#[]⟩, .string ⟨#[]⟩] 9)).alloc (.cells (bsrCells (.slice (some ⟨w.heap.size, 0, none⟩) 0 3)) 161)).cell? ⟨w.heap.size + 1, k, none⟩ = some u := by
      intro k u hu
      have h := World.news_of_block (heap_alloc_new (w.alloc (.cells #[.string ⟨#[]⟩, .string ⟨#[]⟩, .string ⟨#[]⟩] 9)) (.cells (bsrCells (.slice (some ⟨w.heap.size, 0, none⟩) 0 3)) 161)) k u (by rw [Array.getElem?_toList]; exact hu)
      rw [hz] at h
      rwa [show (⟨w.heap.size + 1, 0, none⟩ : Addr).add k = ⟨w.heap.size + 1, k, none⟩ by simp [Addr.add]; intro e; exact e.symm] at h
    have hf : ∀ k, ((w.alloc (.cells #[.string ⟨#[]⟩, .string ⟨#[]⟩, .string ⟨#[]⟩] 9)).alloc (.cells (bsrCells (.slice (some ⟨w.heap.size, 0, none⟩) 0 3)) 161)).frozen? ⟨w.heap.size + 1, k, none⟩ = false := by
      intro k
      have h : ∀ (X : World) (o : Array Value) (t : TypeId), (X.alloc (.cells o t)).frozen? ⟨X.heap.size, k, none⟩ = false := fun X o t => by simp
      have h1 := h (w.alloc (.cells #[.string ⟨#[]⟩, .string ⟨#[]⟩, .string ⟨#[]⟩] 9)) (bsrCells (.slice (some ⟨w.heap.size, 0, none⟩) 0 3)) 161
      rwa [hz] at h1
    exact ⟨by simp, by omega, fun k hk _ => hn k _ (bsr_nil _ k hk), fun k hk => ⟨_, hn k _ (bsr_nil _ k hk)⟩, hn 256 _ (bsr_last _), hf, (World.ownsRow_made w #[.string ⟨#[]⟩, .string ⟨#[]⟩, .string ⟨#[]⟩] 3 (Nat.le_refl _) (by decide) rfl).alloc _, by simp [Value.ownBlock]⟩
  generalize hWe : (w.alloc (.cells #[.string ⟨#[]⟩, .string ⟨#[]⟩, .string ⟨#[]⟩] 9)).alloc (.cells (bsrCells (.slice (some ⟨w.heap.size, 0, none⟩) 0 3)) 161) = W
  obtain ⟨hbW, hBS⟩ := hW W hWe.symm
  generalize w.heap.size + 1 = m at *
  generalize Value.slice (some ⟨w.heap.size, 0, none⟩) 0 3 = tv at *
  clear hW hWe hst hmk r4
  have HX : Hid (∀ X, Below w.heap.size w X → X.cell? ⟨g, 0, none⟩ = some (.string ⟨#[92]⟩) ∧ X.cell? ⟨g, 1, none⟩ = some (.string ⟨#[92, 92]⟩) ∧ X.cell? ⟨g, 2, none⟩ = some (.string ⟨#[34]⟩) ∧ X.cell? ⟨g, 3, none⟩ = some (.string ⟨#[92, 34]⟩) ∧ X.cell? ⟨g, 4, none⟩ = some (.string ⟨#[10]⟩) ∧ X.cell? ⟨g, 5, none⟩ = some (.string ⟨#[92, 110]⟩)) := fun X hX =>
    ⟨(hX.cell (p := ⟨g, 0, none⟩) hg).trans h0, (hX.cell (p := ⟨g, 1, none⟩) hg).trans h1, (hX.cell (p := ⟨g, 2, none⟩) hg).trans h2, (hX.cell (p := ⟨g, 3, none⟩) hg).trans h3, (hX.cell (p := ⟨g, 4, none⟩) hg).trans h4, (hX.cell (p := ⟨g, 5, none⟩) hg).trans h5⟩
  have hx := And.intro hbW hBS
  clear h0 h1 h2 h3 h4 h5 hbW hBS
  have hnil : ∀ (w : World) (a : Option Addr) (n c n' c' : Nat), Sem.run Tryz.prog (binOp .eql 80 (.slice a n c) (.slice none n' c')) w = .ok (.bool a.isNone) w := fun w a n c n' c' => Lib.run_eql_slice_nil w _ _ a n c n' c' Tryz.underlying80
  obtain ⟨i0, hi0, hz0, hz1, hz2⟩ := info_parts infoStr
  have k10 : ∀ h, ((⟨#[10]⟩ : ByteArray)[0]'h).toNat = 10 := fun _ => rfl
  have k34 : ∀ h, ((⟨#[34]⟩ : ByteArray)[0]'h).toNat = 34 := fun _ => rfl
  have k92 : ∀ h, ((⟨#[92]⟩ : ByteArray)[0]'h).toNat = 92 := fun _ => rfl
  have hcv : ∀ (w : World) (s : ByteArray), Sem.run Tryz.prog (convert 9 80 (.string s)) w = .ok (.slice (some ⟨w.heap.size, 0, none⟩) s.size (grownCap w s.size 0 5)) (Lib.bytesWorld w 5 s) := fun w s => Lib.run_convert_string_bytes (P := Tryz.prog) w 9 80 5 s (u := .string) Tryz.underlying9 Tryz.underlying80 Tryz.underlying5
  refine wp_loop_rounds 4 ?_
  obtain ⟨hb, hs⟩ := hx
  have HB := Lib.hid hb
  have HS := Lib.hid hs
  obtain ⟨e0, e1, e2, e3, e4, e5⟩ := HX.out W hb
  clear e0 e1 e2 e3 hb hs
  rw [rounds_succ]
  have hlw := HB.out.size
  have qc := HS.out.nil 10 (by omega) (by decide)
  have qt := HS.out.top
  have hb1 : Sem.run Tryz.prog (convert 80 9 (.slice (some ⟨W.heap.size, 0, none⟩) 1 1)) (W.alloc (.cells #[.int .u8 10] 5)) = .ok (.string ⟨#[10]⟩) (W.alloc (.cells #[.int .u8 10] 5)) := back_one W 10
  have HN1 : Hid (∀ (j : Nat) (u : Value), [Value.string ⟨#[10]⟩][j]? = some u → ((W.alloc (.cells #[.int .u8 10] 5)).alloc (.cells #[.string ⟨#[10]⟩] 9)).cell? ((⟨W.heap.size + 1, 0, none⟩ : Addr).add j) = some u) := by
    have := World.news_of_block (heap_alloc_new (W.alloc (.cells #[.int .u8 10] 5)) (.cells #[.string ⟨#[10]⟩] 9))
    rwa [World.size_alloc] at this
  go_wp2_with (at_builtin; refine wpList_append_lies _ rfl _ _ _ rfl w.heap.size 9 i0 _ 1 16 Tryz.underlying31 hi0 hz0 hz1 hz2 rfl (by omega) tv 0 [] rfl ((HS.out.own.alloc _).alloc _) ⟨W.heap.size + 1, 0, none⟩ 1 1 [.string ⟨#[10]⟩] rfl rfl HN1.out (by intro u hu; simp at hu; rcases hu with rfl; rfl) (by omega) (by unfold maxLen; omega) (by omega) (by simp; omega) (W.heap.size + 2) (by simp) ?_)
  intro g1 cap1 X1 hown hgrow hat hgl
  have HE := Lib.hid (bs_round (n := 0) (N := 1) (xs := []) (ys := [.string ⟨#[10]⟩]) 10 (by omega) HB.out HS.out hown hgrow hat)
  have qt1 := HE.out.1
  have qf1 := HE.out.2.1
  obtain ⟨u2, qc2⟩ := HE.out.2.2.1 ⟨#[92, 110]⟩
  have qf2 := HE.out.2.2.2.1 ⟨#[92, 110]⟩
  clear hown hgrow hat qc qt hb1 HN1
  go_wp2_with fail
  clear qt1 qf1 qc2 qf2 e4 e5
  generalize Value.slice (some ⟨X1.heap.size, 0, none⟩) 2 (grownCap (X1.setCell ⟨m, 256, none⟩ (.slice (some ⟨g1, 0, none⟩) 1 cap1)) 2 0 5) = vv
  have hx := HE.out.2.2.2.2 ⟨#[92, 110]⟩ vv
  generalize (Lib.bytesWorld (X1.setCell ⟨m, 256, none⟩ (.slice (some ⟨g1, 0, none⟩) 1 cap1)) 5 ⟨#[92, 110]⟩).setCell ⟨m, 10, none⟩ vv = W1 at hx ⊢
  clear HE HB HS hlw hgl
  obtain ⟨hb, hs⟩ := hx
  have HB := Lib.hid hb
  have HS := Lib.hid hs
  obtain ⟨e0, e1, e2, e3, e4, e5⟩ := HX.out W1 hb
  clear e0 e1 e4 e5 hb hs
  rw [rounds_succ]
  have hlw := HB.out.size
  have qc := HS.out.nil 34 (by omega) (by decide)
  have qt := HS.out.top
  have hb1 : Sem.run Tryz.prog (convert 80 9 (.slice (some ⟨W1.heap.size, 0, none⟩) 1 1)) (W1.alloc (.cells #[.int .u8 34] 5)) = .ok (.string ⟨#[34]⟩) (W1.alloc (.cells #[.int .u8 34] 5)) := back_one W1 34
  have HN1 : Hid (∀ (j : Nat) (u : Value), [Value.string ⟨#[34]⟩][j]? = some u → ((W1.alloc (.cells #[.int .u8 34] 5)).alloc (.cells #[.string ⟨#[34]⟩] 9)).cell? ((⟨W1.heap.size + 1, 0, none⟩ : Addr).add j) = some u) := by
    have := World.news_of_block (heap_alloc_new (W1.alloc (.cells #[.int .u8 34] 5)) (.cells #[.string ⟨#[34]⟩] 9))
    rwa [World.size_alloc] at this
  go_wp2_with (at_builtin; refine wpList_append_lies _ rfl _ _ _ rfl w.heap.size 9 i0 _ 1 16 Tryz.underlying31 hi0 hz0 hz1 hz2 rfl (by omega) (.slice (some ⟨g1, 0, none⟩) 1 cap1) 1 [.string ⟨#[10]⟩] rfl ((HS.out.own.alloc _).alloc _) ⟨W1.heap.size + 1, 0, none⟩ 1 1 [.string ⟨#[34]⟩] rfl rfl HN1.out (by intro u hu; simp at hu; rcases hu with rfl; rfl) (by omega) (by unfold maxLen; omega) (by omega) (by simp; omega) (W1.heap.size + 2) (by simp) ?_)
  intro g2 cap2 X2 hown hgrow hat hgl
  have HE := Lib.hid (bs_round (n := 1) (N := 2) (xs := [.string ⟨#[10]⟩]) (ys := [.string ⟨#[10]⟩, .string ⟨#[34]⟩]) 34 (by omega) HB.out HS.out hown hgrow hat)
  have qt1 := HE.out.1
  have qf1 := HE.out.2.1
  obtain ⟨u2, qc2⟩ := HE.out.2.2.1 ⟨#[92, 34]⟩
  have qf2 := HE.out.2.2.2.1 ⟨#[92, 34]⟩
  clear hown hgrow hat qc qt hb1 HN1
  go_wp2_with fail
  clear qt1 qf1 qc2 qf2 e2 e3
  generalize Value.slice (some ⟨X2.heap.size, 0, none⟩) 2 (grownCap (X2.setCell ⟨m, 256, none⟩ (.slice (some ⟨g2, 0, none⟩) 2 cap2)) 2 0 5) = vv
  have hx := HE.out.2.2.2.2 ⟨#[92, 34]⟩ vv
  generalize (Lib.bytesWorld (X2.setCell ⟨m, 256, none⟩ (.slice (some ⟨g2, 0, none⟩) 2 cap2)) 5 ⟨#[92, 34]⟩).setCell ⟨m, 34, none⟩ vv = W2 at hx ⊢
  clear HE HB HS hlw hgl
  obtain ⟨hb, hs⟩ := hx
  have HB := Lib.hid hb
  have HS := Lib.hid hs
  obtain ⟨e0, e1, e2, e3, e4, e5⟩ := HX.out W2 hb
  clear e2 e3 e4 e5 hb hs
  rw [rounds_succ]
  have hlw := HB.out.size
  have qc := HS.out.nil 92 (by omega) (by decide)
  have qt := HS.out.top
  have hb1 : Sem.run Tryz.prog (convert 80 9 (.slice (some ⟨W2.heap.size, 0, none⟩) 1 1)) (W2.alloc (.cells #[.int .u8 92] 5)) = .ok (.string ⟨#[92]⟩) (W2.alloc (.cells #[.int .u8 92] 5)) := back_one W2 92
  have HN1 : Hid (∀ (j : Nat) (u : Value), [Value.string ⟨#[92]⟩][j]? = some u → ((W2.alloc (.cells #[.int .u8 92] 5)).alloc (.cells #[.string ⟨#[92]⟩] 9)).cell? ((⟨W2.heap.size + 1, 0, none⟩ : Addr).add j) = some u) := by
    have := World.news_of_block (heap_alloc_new (W2.alloc (.cells #[.int .u8 92] 5)) (.cells #[.string ⟨#[92]⟩] 9))
    rwa [World.size_alloc] at this
  go_wp2_with (at_builtin; refine wpList_append_lies _ rfl _ _ _ rfl w.heap.size 9 i0 _ 1 16 Tryz.underlying31 hi0 hz0 hz1 hz2 rfl (by omega) (.slice (some ⟨g2, 0, none⟩) 2 cap2) 2 [.string ⟨#[10]⟩, .string ⟨#[34]⟩] rfl ((HS.out.own.alloc _).alloc _) ⟨W2.heap.size + 1, 0, none⟩ 1 1 [.string ⟨#[92]⟩] rfl rfl HN1.out (by intro u hu; simp at hu; rcases hu with rfl; rfl) (by omega) (by unfold maxLen; omega) (by omega) (by simp; omega) (W2.heap.size + 2) (by simp) ?_)
  intro g3 cap3 X3 hown hgrow hat hgl
  have HE := Lib.hid (bs_round (n := 2) (N := 3) (xs := [.string ⟨#[10]⟩, .string ⟨#[34]⟩]) (ys := [.string ⟨#[10]⟩, .string ⟨#[34]⟩, .string ⟨#[92]⟩]) 92 (by omega) HB.out HS.out hown hgrow hat)
  have qt1 := HE.out.1
  have qf1 := HE.out.2.1
  obtain ⟨u2, qc2⟩ := HE.out.2.2.1 ⟨#[92, 92]⟩
  have qf2 := HE.out.2.2.2.1 ⟨#[92, 92]⟩
  clear hown hgrow hat qc qt hb1 HN1
  go_wp2_with fail
  clear qt1 qf1 qc2 qf2 e0 e1
  generalize Value.slice (some ⟨X3.heap.size, 0, none⟩) 2 (grownCap (X3.setCell ⟨m, 256, none⟩ (.slice (some ⟨g3, 0, none⟩) 3 cap3)) 2 0 5) = vv
  have hx := HE.out.2.2.2.2 ⟨#[92, 92]⟩ vv
  generalize (Lib.bytesWorld (X3.setCell ⟨m, 256, none⟩ (.slice (some ⟨g3, 0, none⟩) 3 cap3)) 5 ⟨#[92, 92]⟩).setCell ⟨m, 92, none⟩ vv = W3 at hx ⊢
  clear HE HB HS hlw hgl
  rw [rounds_succ]
  go_wp2_with fail
  go_ret
  exact ⟨m, rfl, hx.1, hx.2.le, hx.2.lt, ⟨g3, cap3, hx.2.top⟩, fun k hk h1 h2 h3 => hx.2.nil k hk (by simp [h1, h2, h3])⟩

end Go.Proofs.YteemciknbiloiaaGreatDoor.Ih
