/- Walk over layer 6's reader: the list of the law's own text. -/
import Derived.Test.YtgcmjidphoklkaaGreatDoorMqP2
import Derived.Test.YtgcmjidphoklkaaGreatDoorIhP3
import Derived.Deep.AppendLies
import Derived.Defers
import Derived.Recover
namespace Go.Proofs.YtgcmjidphoklkaaGreatDoor.Ih
open Go.RowKit Rx

/-- The law's text. -/
def bT : ByteArray := ⟨#[123, 106, 111, 98, 61, 126, 34, 97, 124, 98, 34, 44, 120, 33, 61, 34, 34, 125]⟩
def bJob : ByteArray := ⟨#[106, 111, 98]⟩
def bAB : ByteArray := ⟨#[97, 124, 98]⟩
def bX : ByteArray := ⟨#[120]⟩

theorem bT_size : bT.size = 18 := by rfl
theorem nb (i : Nat) (h : i ≤ 18) : NoBlank bT i := by
  intro _
  have : ∀ i : Fin 19, (bT.get! i.val).toNat ≠ 32 ∧ (bT.get! i.val).toNat ≠ 9 := by decide
  exact this ⟨i, by omega⟩

theorem in1 : ∀ k, 1 ≤ k → k < 4 → insideB (bT.get! k).toNat = true := by
  intro k h1 h2
  have h3 : k = 1 ∨ k = 2 ∨ k = 3 := by omega
  rcases h3 with rfl | rfl | rfl <;> decide
theorem in2 : ∀ k, 12 ≤ k → k < 13 → insideB (bT.get! k).toNat = true := by
  intro k h1 h2
  obtain rfl : k = 12 := by omega
  decide
theorem ex1 : bT.extract 1 4 = bJob := by rfl
theorem ex2 : bT.extract 12 13 = bX := by rfl
theorem va1 : (⟨((bT.data.toList.take 10).drop (6 + 1)).toArray⟩ : ByteArray) = bAB := by rfl
theorem va2 : (⟨((bT.data.toList.take 16).drop (15 + 1)).toArray⟩ : ByteArray) = ⟨#[]⟩ := by rfl
theorem q1 : ∀ k, 6 < k → k < 10 → (bT.get! k).toNat ≠ 34 ∧ (bT.get! k).toNat ≠ 92 := by
  intro k h1 h2
  have h3 : k = 7 ∨ k = 8 ∨ k = 9 := by omega
  rcases h3 with rfl | rfl | rfl <;> decide
theorem q2 : ∀ k, 15 < k → k < 16 → (bT.get! k).toNat ≠ 34 ∧ (bT.get! k).toNat ≠ 92 := by
  intro k h1 h2
  omega

theorem infoM : (Tryz.prog.info? 26).map (fun i => (i.zero, i.size, i.bytes)) = some (some (.agg #[.int .i64 0, .string ⟨#[]⟩, .string ⟨#[]⟩]), 3, 40) := by kernel_rfl

/-- A matcher's own cells. -/
structure MbAt (w : World) (mb : Nat) (op : Int) (n v : ByteArray) : Prop where
  lt : mb < w.heap.size
  c0 : w.cell? ⟨mb, 0, none⟩ = some (.int .i64 op)
  c1 : w.cell? ⟨mb, 1, none⟩ = some (.string n)
  c2 : w.cell? ⟨mb, 2, none⟩ = some (.string v)
  fz : ∀ k, w.frozen? ⟨mb, k, none⟩ = false

theorem MbAt.like {w w' : World} {mb : Nat} {op : Int} {n v : ByteArray} (h : MbAt w mb op n v) (hb : w'.heap[mb]? = w.heap[mb]?) (hs : w.heap.size ≤ w'.heap.size) : MbAt w' mb op n v := by
  have e : ∀ k, w'.cell? ⟨mb, k, none⟩ = w.cell? ⟨mb, k, none⟩ := fun k => World.cell?_of_block (w := w) (a := ⟨mb, k, none⟩) hb
  exact ⟨Nat.lt_of_lt_of_le h.lt hs, (e 0).trans h.c0, (e 1).trans h.c1, (e 2).trans h.c2, fun k => (World.frozen?_of_block (w := w) (a := ⟨mb, k, none⟩) hb).trans (h.fz k)⟩
theorem MbAt.set0 {w : World} {mb : Nat} {op : Int} {n v : ByteArray} (h : MbAt w mb op n v) (x : Int) : MbAt (w.setCell ⟨mb, 0, none⟩ (.int .i64 x)) mb x n v :=
  ⟨by simpa [World.setCell] using h.lt, World.cell?_setCell_same _ _ _ h.c0, other h.c1 (by decide), other h.c2 (by decide), fun k => by simpa using h.fz k⟩
theorem MbAt.set2 {w : World} {mb : Nat} {op : Int} {n v : ByteArray} (h : MbAt w mb op n v) (x : ByteArray) : MbAt (w.setCell ⟨mb, 2, none⟩ (.string x)) mb op n x :=
  ⟨by simpa [World.setCell] using h.lt, other h.c0 (by decide), other h.c1 (by decide), World.cell?_setCell_same _ _ _ h.c2, fun k => by simpa using h.fz k⟩
theorem MbAt.new (w : World) (n : ByteArray) : MbAt (w.alloc (.cells #[.int .i64 0, .string n, .string ⟨#[]⟩] 26)) w.heap.size 0 n ⟨#[]⟩ := ⟨by simp, by simp, by simp, by simp, fun k => by simp⟩

theorem But.setNew {b k j : Nat} {w w' : World} (h : But b w w') (hk : w.heap.size ≤ k) (u : Value) : But b w (w'.setCell ⟨k, j, none⟩ u) :=
  ⟨h.os, h.tape, h.output, by have := h.size; simpa [World.setCell] using this, fun i hi hn => (setCell_block_ne _ _ _ _ (by show i ≠ k; omega)).trans (h.block i hi hn)⟩
theorem But.grown {b : Nat} {w w' w'' : World} {row : Option Nat} (h : But b w w') (hg : w'.grownBy w'' row) (hr : ∀ k, row = some k → w.heap.size ≤ k) : But b w w'' :=
  ⟨hg.os.trans h.os, hg.tape.trans h.tape, hg.output.trans h.output, Nat.le_trans h.size hg.size, fun i hi hn => (hg.block i (by have := h.size; omega) (fun e => by have := hr i e.symm; omega)).trans (h.block i hi hn)⟩
theorem RdAt.setOther {w : World} {b k j : Nat} {s : ByteArray} {i : Nat} (h : RdAt w b s i) (hk : k ≠ b) (u : Value) : RdAt (w.setCell ⟨k, j, none⟩ u) b s i :=
  h.like (setCell_block_ne _ _ _ _ (by show b ≠ k; omega)) (by simp [World.setCell])

theorem ownsRow_but {w w' : World} {base b : Nat} {e : TypeId} {size : Nat} {v : Value} {n : Nat} {xs : List Value} (h : w.ownsRow base e size v n xs) (hb : But b w w') (hlt : b < base) : w'.ownsRow base e size v n xs :=
  h.kept (row := some b) ⟨hb.os, hb.tape, hb.output, hb.size, fun i hi hn => hb.block i hi (fun e => hn (by rw [e]))⟩ (by
    cases hg : v.ownBlock with
    | none => exact .inl rfl
    | some g => exact .inr (fun e => by injection e with e; have := (h.lt g hg).1; omega))

theorem ownsRow_set {w : World} {base k j : Nat} {e : TypeId} {size : Nat} {v : Value} {n : Nat} {xs : List Value} {u : Value} (h : w.ownsRow base e size v n xs) (hk : v.ownBlock ≠ some k) : (w.setCell ⟨k, j, none⟩ u).ownsRow base e size v n xs :=
  h.kept (row := some k) ⟨rfl, rfl, rfl, by simp [World.setCell], fun i _ hn => setCell_block_ne _ _ _ _ (by show i ≠ k; exact fun e => hn (by rw [e]))⟩ (.inr hk)

theorem mat_two {w : World} {base g cap : Nat} {o1 o2 : Int} {n1 v1 n2 v2 : ByteArray} (h : w.ownsRow base 26 3 (.slice (some ⟨g, 0, none⟩) (1 + 1) cap) (1 + 1) ([.int .i64 o1, .string n1, .string v1] ++ [.int .i64 o2, .string n2, .string v2])) : MatAt w g 0 [⟨o1, n1, v1⟩, ⟨o2, n2, v2⟩] := by
  intro i x hx
  have c := fun j (hj : j < 2 * 3) => h.cellAt j hj
  match i with
  | 0 =>
    simp at hx; subst hx
    exact ⟨by simpa using c 0 (by omega), by simpa using c 1 (by omega), by simpa using c 2 (by omega)⟩
  | 1 =>
    simp at hx; subst hx
    exact ⟨by simpa using c 3 (by omega), by simpa using c 4 (by omega), by simpa using c 5 (by omega)⟩
  | (k + 2) => simp at hx

set_option maxRecDepth 100000 in
set_option maxHeartbeats 8000000 in
theorem list_awake (w : World) (b : Nat) (h : RdAt w b bT 0) :
    Calls Tryz.prog 47 #[.pointer (some ⟨b, 0, none⟩)] w (fun e w' => ∃ gb cap, e = .returned (.slice (some ⟨gb, 0, none⟩) 2 cap) ∧ But b w w' ∧ MatAt w' gb 0 [⟨3, bJob, bAB⟩, ⟨2, bX, ⟨#[]⟩⟩] ∧ w.heap.size ≤ gb ∧ gb < w'.heap.size) := by
  have hs := bT_size
  have HS := Lib.hid hs
  have hlt := h.lt
  have HC := Lib.hid (want_ok w b bT 0 123 (by omega) h (nb 0 (by omega)) (by omega) (by decide))
  clear h hs
  go_enter Tryz.func47, Tryz.ntmps47
  go_wp2_with fail
  refine HC.out.mono ?_
  rintro e w1 ⟨rfl, hb1, h1⟩
  have hzw1 := hb1.size
  have HBw1 := Lib.hid hb1
  have Hw1 : Hid (RdAt w1 b bT 1) := Lib.hid h1
  clear HC hb1 h1
  obtain ⟨i0, hi0, hz0, hzi1, hzi2⟩ := info_parts infoM
  have HOWNw1 : Hid (w1.ownsRow w.heap.size 26 3 (.slice none 0 0) 0 []) := World.ownsRow_nil _ _ _ _
  go_wp2_with fail
  refine wp_loop_rounds 2 ?_
  rw [rounds_succ]
  go_wp2_with fail
  refine (next_no w1 b bT 1 125 Hw1.out (nb _ (by omega)) (fun _ => by decide)).mono ?_
  rintro e z ⟨rfl, nz, rfl⟩
  have HBa := Lib.hid (HBw1.out.drewN nz)
  have Ha := Lib.hid (Hw1.out.drewN nz)
  have HOa : Hid ((w1.drewN nz).ownsRow w.heap.size 26 3 (.slice none 0 0) 0 []) := HOWNw1.out
  have hza : w.heap.size ≤ (w1.drewN nz).heap.size := HBa.out.size
  have hzA : w1.heap.size ≤ (w1.drewN nz).heap.size := Nat.le_refl _
  generalize w1.drewN nz = A1 at *
  go_wp2_with fail
  refine (name_ok A1 b bT 1 4 (by rw [HS.out]; omega) Ha.out (nb _ (by omega)) (by omega) (by rw [HS.out]; omega) in1 (by decide) (by decide)).mono ?_
  rw [ex1]
  rintro e B1 ⟨rfl, hbb, hrb⟩
  have HBb := Lib.hid (HBa.out.trans hbb)
  have Hb := Lib.hid hrb
  have hzb := HBb.out.size
  have hzB := hbb.size
  have HOb := Lib.hid (ownsRow_but HOa.out hbb hlt)
  clear hbb hrb HBa Ha HOa
  go_wp2_with fail
  have HN : Hid (∀ X, X = B1.alloc (.cells #[.int .i64 0, .string bJob, .string ⟨#[]⟩] 26) → But b w X ∧ RdAt X b bT 4 ∧ X.heap.size = B1.heap.size + 1 ∧ MbAt X B1.heap.size 0 bJob ⟨#[]⟩ ∧ X.ownsRow w.heap.size 26 3 (.slice none 0 0) 0 []) := by
    rintro X rfl
    exact ⟨HBb.out.alloc _, Hb.out.below ((Below.refl _ _).alloc (Nat.le_refl _) _), by simp, MbAt.new _ _, HOb.out.alloc _⟩
  generalize hXe : B1.alloc (.cells #[.int .i64 0, .string bJob, .string ⟨#[]⟩] 26) = C1 at *
  obtain ⟨hb1, hr1, hz1', hm1, ho1⟩ := HN.out C1 rfl
  have HBc := Lib.hid hb1
  have Hc := Lib.hid hr1
  have HMc := Lib.hid hm1
  have HOc := Lib.hid ho1
  skip
  generalize hmbe : B1.heap.size = mb1 at *
  clear HN hXe hb1 hr1 hm1 ho1 HBb Hb HOb hmbe
  refine (op_re C1 b bT 4 (by rw [HS.out]; omega) Hc.out (nb _ (by omega)) (by rw [HS.out]; omega) (by decide) (by decide)).mono ?_
  rintro e D1 ⟨rfl, hbd, hrd⟩
  have HBd := Lib.hid (HBc.out.trans hbd)
  have Hd := Lib.hid hrd
  have HMd := Lib.hid (HMc.out.like (hbd.block mb1 HMc.out.lt (by omega)) hbd.size)
  have HOd := Lib.hid (ownsRow_but HOc.out hbd hlt)
  clear hbd hrd HBc Hc HMc HOc
  have m0 := HMd.out.c0
  have f0 := HMd.out.fz 0
  go_wp2_with fail
  have HBe := Lib.hid (HBd.out.setNew (k := mb1) (j := 0) (by omega) (.int .i64 3))
  have He := Lib.hid (Hd.out.setOther (k := mb1) (j := 0) (by omega) (.int .i64 3))
  have HMe := Lib.hid (HMd.out.set0 3)
  have HOe := Lib.hid (ownsRow_set (k := mb1) (j := 0) (u := .int .i64 3) HOd.out (by simp [Value.ownBlock]))
  clear m0 f0 HBd Hd HMd HOd
  generalize D1.setCell ⟨mb1, 0, none⟩ (.int .i64 3) = E1 at *
  refine (value_ok' E1 b bT (4 + 2) 10 (by rw [HS.out]; omega) He.out (nb _ (by omega)) (by omega) (by rw [HS.out]; omega) (by decide) (by decide) q1).mono ?_
  rw [va1]
  rintro e F1 ⟨rfl, hbf, hrf⟩
  have HBf := Lib.hid (HBe.out.trans hbf)
  have Hf := Lib.hid hrf
  have HMf := Lib.hid (HMe.out.like (hbf.block mb1 HMe.out.lt (by omega)) hbf.size)
  have HOf := Lib.hid (ownsRow_but HOe.out hbf hlt)
  clear hbf hrf HBe He HMe HOe
  have m2 := HMf.out.c2
  have f2 := HMf.out.fz 2
  have HBg := Lib.hid (HBf.out.setNew (k := mb1) (j := 2) (by omega) (.string bAB))
  have Hg := Lib.hid (Hf.out.setOther (k := mb1) (j := 2) (by omega) (.string bAB))
  have HMg := Lib.hid (HMf.out.set2 bAB)
  have HOg := Lib.hid (ownsRow_set (k := mb1) (j := 2) (u := .string bAB) HOf.out (by simp [Value.ownBlock]))
  have m0 := HMg.out.c0
  have m1 := HMg.out.c1
  have m3 := HMg.out.c2
  have hzg := HBg.out.size
  clear HBf Hf HMf HOf
  have HNW : Hid (∀ (X : World) (j : Nat) (u : Value), [Value.int .i64 3, .string bJob, .string bAB][j]? = some u → (X.alloc (.cells #[.int .i64 3, .string bJob, .string bAB] 26)).cell? ((⟨X.heap.size, 0, none⟩ : Addr).add j) = some u) := fun X => World.news_of_block (heap_alloc_new X _)
  have HSZ := Lib.hid (setCell_size F1 ⟨mb1, 2, none⟩ (.string bAB))
  have hlt' : w.heap.size ≤ F1.heap.size := by rw [← HSZ.out]; exact hzg
  have HNW2 : Hid (∀ (j : Nat) (u : Value), [Value.int .i64 3, .string bJob, .string bAB][j]? = some u → ((F1.setCell ⟨mb1, 2, none⟩ (.string bAB)).alloc (.cells #[.int .i64 3, .string bJob, .string bAB] 26)).cell? ((⟨F1.heap.size, 0, none⟩ : Addr).add j) = some u) := by
    have := HNW.out (F1.setCell ⟨mb1, 2, none⟩ (.string bAB))
    rwa [HSZ.out] at this
  go_wp2_with (at_builtin; refine wpList_append_lies _ rfl _ _ _ rfl w.heap.size 26 i0 _ 3 40 Tryz.underlying59 hi0 hz0 hzi1 hzi2 rfl (by omega) (.slice none 0 0) 0 [] rfl (HOg.out.alloc _) ⟨F1.heap.size, 0, none⟩ 1 1 [.int .i64 3, .string bJob, .string bAB] rfl rfl HNW2.out (by intro u hu; simp at hu; rcases hu with rfl | rfl | rfl <;> rfl) (by omega) (by unfold maxLen; omega) (by omega) (by simp; omega) (F1.heap.size + 1) (by simp) ?_)
  intro g1 cap1 w1x hown hgrow hat hgl
  have hgb : w.heap.size ≤ g1 := (hown.lt g1 rfl).1
  have HBh := Lib.hid ((HBg.out.alloc _).grown hgrow (fun k hk => by cases hk))
  have Hh : Hid (RdAt w1x b bT (10 + 1)) := (Hg.out.below ((Below.refl _ _).alloc (Nat.le_refl _) _)).like (hgrow.block b (by simp; have := Hg.out.lt; omega) (fun e => by cases e)) hgrow.size
  have HOh := Lib.hid hown
  clear hown hgrow hat HBg Hg HMg HOg m0 m1 m2 m3 f2 HNW HSZ HNW2
  go_wp2_with fail
  refine (next_yes w1x b bT 11 44 (by rw [HS.out]; omega) Hh.out (nb _ (by omega)) (by rw [HS.out]; omega) (by decide)).mono ?_
  rintro e w2 ⟨rfl, hbn, hrn⟩
  have HBw2 := Lib.hid (HBh.out.trans hbn)
  have Hw2 : Hid (RdAt w2 b bT 12) := hrn
  have HOWNw2 := Lib.hid (ownsRow_but HOh.out hbn hlt)
  have hgw2 : g1 < w2.heap.size := by have := hbn.size; omega
  have hzw2 := HBw2.out.size
  clear hbn hrn HBh Hh HOh HOWNw1 HBw1 Hw1 hgl
  go_wp2_with fail
  rw [rounds_succ]
  go_wp2_with fail
  refine (next_no w2 b bT 12 125 Hw2.out (nb _ (by omega)) (fun _ => by decide)).mono ?_
  rintro e z ⟨rfl, nz, rfl⟩
  have HBa := Lib.hid (HBw2.out.drewN nz)
  have Ha := Lib.hid (Hw2.out.drewN nz)
  have HOa : Hid ((w2.drewN nz).ownsRow w.heap.size 26 3 (.slice (some ⟨g1, 0, none⟩) 1 cap1) 1 [.int .i64 3, .string bJob, .string bAB]) := HOWNw2.out
  have hza : w.heap.size ≤ (w2.drewN nz).heap.size := HBa.out.size
  have hzA : w2.heap.size ≤ (w2.drewN nz).heap.size := Nat.le_refl _
  generalize w2.drewN nz = A2 at *
  go_wp2_with fail
  refine (name_ok A2 b bT 12 13 (by rw [HS.out]; omega) Ha.out (nb _ (by omega)) (by omega) (by rw [HS.out]; omega) in2 (by decide) (by decide)).mono ?_
  rw [ex2]
  rintro e B2 ⟨rfl, hbb, hrb⟩
  have HBb := Lib.hid (HBa.out.trans hbb)
  have Hb := Lib.hid hrb
  have hzb := HBb.out.size
  have hzB := hbb.size
  have HOb := Lib.hid (ownsRow_but HOa.out hbb hlt)
  clear hbb hrb HBa Ha HOa
  go_wp2_with fail
  have HN : Hid (∀ X, X = B2.alloc (.cells #[.int .i64 0, .string bX, .string ⟨#[]⟩] 26) → But b w X ∧ RdAt X b bT 13 ∧ X.heap.size = B2.heap.size + 1 ∧ MbAt X B2.heap.size 0 bX ⟨#[]⟩ ∧ X.ownsRow w.heap.size 26 3 (.slice (some ⟨g1, 0, none⟩) 1 cap1) 1 [.int .i64 3, .string bJob, .string bAB]) := by
    rintro X rfl
    exact ⟨HBb.out.alloc _, Hb.out.below ((Below.refl _ _).alloc (Nat.le_refl _) _), by simp, MbAt.new _ _, HOb.out.alloc _⟩
  generalize hXe : B2.alloc (.cells #[.int .i64 0, .string bX, .string ⟨#[]⟩] 26) = C2 at *
  obtain ⟨hb1, hr1, hz1', hm1, ho1⟩ := HN.out C2 rfl
  have HBc := Lib.hid hb1
  have Hc := Lib.hid hr1
  have HMc := Lib.hid hm1
  have HOc := Lib.hid ho1
  have hgm : g1 < B2.heap.size := by omega
  generalize hmbe : B2.heap.size = mb2 at *
  clear HN hXe hb1 hr1 hm1 ho1 HBb Hb HOb hmbe
  refine (op_ne C2 b bT 13 (by rw [HS.out]; omega) Hc.out (nb _ (by omega)) (by rw [HS.out]; omega) (by decide)).mono ?_
  rintro e D2 ⟨rfl, hbd, hrd⟩
  have HBd := Lib.hid (HBc.out.trans hbd)
  have Hd := Lib.hid hrd
  have HMd := Lib.hid (HMc.out.like (hbd.block mb2 HMc.out.lt (by omega)) hbd.size)
  have HOd := Lib.hid (ownsRow_but HOc.out hbd hlt)
  clear hbd hrd HBc Hc HMc HOc
  have m0 := HMd.out.c0
  have f0 := HMd.out.fz 0
  go_wp2_with fail
  have HBe := Lib.hid (HBd.out.setNew (k := mb2) (j := 0) (by omega) (.int .i64 2))
  have He := Lib.hid (Hd.out.setOther (k := mb2) (j := 0) (by omega) (.int .i64 2))
  have HMe := Lib.hid (HMd.out.set0 2)
  have HOe := Lib.hid (ownsRow_set (k := mb2) (j := 0) (u := .int .i64 2) HOd.out (by simp only [Value.ownBlock]; intro e; injection e with e; omega))
  clear m0 f0 HBd Hd HMd HOd
  generalize D2.setCell ⟨mb2, 0, none⟩ (.int .i64 2) = E2 at *
  refine (value_ok' E2 b bT (13 + 2) 16 (by rw [HS.out]; omega) He.out (nb _ (by omega)) (by omega) (by rw [HS.out]; omega) (by decide) (by decide) q2).mono ?_
  rw [va2]
  rintro e F2 ⟨rfl, hbf, hrf⟩
  have HBf := Lib.hid (HBe.out.trans hbf)
  have Hf := Lib.hid hrf
  have HMf := Lib.hid (HMe.out.like (hbf.block mb2 HMe.out.lt (by omega)) hbf.size)
  have HOf := Lib.hid (ownsRow_but HOe.out hbf hlt)
  clear hbf hrf HBe He HMe HOe
  have m2 := HMf.out.c2
  have f2 := HMf.out.fz 2
  have HBg := Lib.hid (HBf.out.setNew (k := mb2) (j := 2) (by omega) (.string ⟨#[]⟩))
  have Hg := Lib.hid (Hf.out.setOther (k := mb2) (j := 2) (by omega) (.string ⟨#[]⟩))
  have HMg := Lib.hid (HMf.out.set2 ⟨#[]⟩)
  have HOg := Lib.hid (ownsRow_set (k := mb2) (j := 2) (u := .string ⟨#[]⟩) HOf.out (by simp only [Value.ownBlock]; intro e; injection e with e; omega))
  have m0 := HMg.out.c0
  have m1 := HMg.out.c1
  have m3 := HMg.out.c2
  have hzg := HBg.out.size
  clear HBf Hf HMf HOf
  have HNW : Hid (∀ (X : World) (j : Nat) (u : Value), [Value.int .i64 2, .string bX, .string ⟨#[]⟩][j]? = some u → (X.alloc (.cells #[.int .i64 2, .string bX, .string ⟨#[]⟩] 26)).cell? ((⟨X.heap.size, 0, none⟩ : Addr).add j) = some u) := fun X => World.news_of_block (heap_alloc_new X _)
  have HSZ := Lib.hid (setCell_size F2 ⟨mb2, 2, none⟩ (.string ⟨#[]⟩))
  have hlt' : w.heap.size ≤ F2.heap.size := by rw [← HSZ.out]; exact hzg
  have HNW2 : Hid (∀ (j : Nat) (u : Value), [Value.int .i64 2, .string bX, .string ⟨#[]⟩][j]? = some u → ((F2.setCell ⟨mb2, 2, none⟩ (.string ⟨#[]⟩)).alloc (.cells #[.int .i64 2, .string bX, .string ⟨#[]⟩] 26)).cell? ((⟨F2.heap.size, 0, none⟩ : Addr).add j) = some u) := by
    have := HNW.out (F2.setCell ⟨mb2, 2, none⟩ (.string ⟨#[]⟩))
    rwa [HSZ.out] at this
  go_wp2_with (at_builtin; refine wpList_append_lies _ rfl _ _ _ rfl w.heap.size 26 i0 _ 3 40 Tryz.underlying59 hi0 hz0 hzi1 hzi2 rfl (by omega) (.slice (some ⟨g1, 0, none⟩) 1 cap1) 1 [.int .i64 3, .string bJob, .string bAB] rfl (HOg.out.alloc _) ⟨F2.heap.size, 0, none⟩ 1 1 [.int .i64 2, .string bX, .string ⟨#[]⟩] rfl rfl HNW2.out (by intro u hu; simp at hu; rcases hu with rfl | rfl | rfl <;> rfl) (by omega) (by unfold maxLen; omega) (by omega) (by simp; omega) (F2.heap.size + 1) (by simp) ?_)
  intro g2 cap2 w2x hown hgrow hat hgl
  have hgb : w.heap.size ≤ g2 := (hown.lt g2 rfl).1
  have HBh := Lib.hid ((HBg.out.alloc _).grown hgrow (fun k hk => by (have hk : g1 = k := (by injection hk)); omega))
  have Hh : Hid (RdAt w2x b bT (16 + 1)) := (Hg.out.below ((Below.refl _ _).alloc (Nat.le_refl _) _)).like (hgrow.block b (by simp; have := Hg.out.lt; omega) (fun e => by have e' : b = g1 := (by injection e); omega)) hgrow.size
  have HOh := Lib.hid hown
  clear hown hgrow hat HBg Hg HMg HOg m0 m1 m2 m3 f2 HNW HSZ HNW2
  go_wp2_with fail
  refine (next_no w2x b bT 17 44 Hh.out (nb _ (by omega)) (fun _ => by decide)).mono ?_
  rintro e z ⟨rfl, nz, rfl⟩
  have HBa := Lib.hid (HBh.out.drewN nz)
  have Ha := Lib.hid (Hh.out.drewN nz)
  have HOa : Hid ((w2x.drewN nz).ownsRow w.heap.size 26 3 (.slice (some ⟨g2, 0, none⟩) (1 + 1) cap2) (1 + 1) ([.int .i64 3, .string bJob, .string bAB] ++ [.int .i64 2, .string bX, .string ⟨#[]⟩])) := HOh.out
  generalize w2x.drewN nz = A3 at *
  go_wp2_with fail
  refine (want_ok A3 b bT 17 125 (by rw [HS.out]; omega) Ha.out (nb _ (by omega)) (by rw [HS.out]; omega) (by decide)).mono ?_
  rintro e A4 ⟨rfl, hbn, hrn⟩
  have HB4 := Lib.hid (HBa.out.trans hbn)
  have H4 : Hid (RdAt A4 b bT 18) := hrn
  have HO4 := Lib.hid (ownsRow_but HOa.out hbn hlt)
  clear hbn hrn HBa Ha HOa HOh HBh Hh
  go_wp2_with fail
  refine (blanks_none A4 b bT 18 H4.out (nb _ (by omega))).mono ?_
  rintro e z ⟨rfl, ny, rfl⟩
  have HB5 := Lib.hid (HB4.out.drewN ny)
  have H5 := Lib.hid (H4.out.drewN ny)
  have HO5 : Hid ((A4.drewN ny).ownsRow w.heap.size 26 3 (.slice (some ⟨g2, 0, none⟩) (1 + 1) cap2) (1 + 1) ([.int .i64 3, .string bJob, .string bAB] ++ [.int .i64 2, .string bX, .string ⟨#[]⟩])) := HO4.out
  generalize A4.drewN ny = A5 at *
  have c0 := H5.out.c0
  have c1 := H5.out.c1
  have hsd : decide (18 < bT.size) = false := by rw [HS.out]; decide
  clear HB4 H4 HO4
  go_wp2_with fail
  go_quiet (fail)
  go_wp2_with fail
  go_ret
  refine ⟨g2, cap2, rfl, HB5.out.drewN _, mat_two HO5.out, by omega, (HO5.out.lt g2 rfl).2⟩

end Go.Proofs.YtgcmjidphoklkaaGreatDoor.Ih

/- Walk over layer 6: read of the law's own text. -/
namespace Go.Proofs.YtgcmjidphoklkaaGreatDoor.Ih
open Go.RowKit Rx

/-- The deferred function of a call that returns: nothing to catch. -/
theorem read_idle (p q r : Addr) (w : World) :
    CallsD Tryz.prog 46 #[.pointer (some p), .pointer (some q), .pointer (some r)] .returning w fun e u' w' => e = .returned (.tuple #[]) ∧ u' = .returning ∧ w' = w := by
  refine callsD_of_wpS Tryz.func46 rfl fun c₀ cs hu => ?_
  apply wpS_seq
  apply wpS_region
  simp [wpOpsS, go_sem, recoverD, hu, Tryz.ntmps46, Exit.thenS]
  refine wpS_of_wp ?_
  generalize hQ : (fun e a' w' => bodyPostS _ _ _ _ _ e a' _ w') = Q
  replace hQ : ∀ a, a.defers = [] → Q .normal a w := by
    rintro a ha
    subst hQ
    cases c₀
    simp_all [bodyPostS, results, Tryz.results46]
  have HQ := Lib.hid hQ
  clear hu hQ
  change Code.wp _ _ _ ⟨#[.pointer (some p), .pointer (some q), .pointer (some r), .nilIface, undef, undef, .nilIface, undef, undef, undef, undef, undef, undef, undef, undef, undef, undef, undef, undef], []⟩ _
  go_wp2_with fail
  exact HQ.out _ rfl

set_option maxRecDepth 100000 in
set_option maxHeartbeats 2000000 in
theorem read_awake (w : World) :
    Calls Tryz.prog 30 #[.string bT] w (fun e w' => ∃ gb cap, e = .returned (.tuple #[.slice (some ⟨gb, 0, none⟩) 2 cap, .int .i64 0, .bool true]) ∧ Below w.heap.size w w' ∧ MatAt w' gb 0 [⟨3, bJob, bAB⟩, ⟨2, bX, ⟨#[]⟩⟩] ∧ w.heap.size ≤ gb ∧ gb < w'.heap.size) := by
  have hmf : ∀ (fn : Fn) (first cap : Array Value) (w : World), (Instr.makeFunc fn first cap).run Tryz.prog w = .ok (.func fn first cap) w := fun _ _ _ _ => rfl
  go_enter_defers Tryz.func30, Tryz.ntmps30
  go_wp2_with fail
  clear hmf
  have HW : Hid (∀ W, W = (((w.alloc (.cells #[.slice none 0 0] 59)).alloc (.cells #[.int .i64 0] 3)).alloc (.cells #[.bool false] 4)).alloc (.cells #[.string bT, .int .i64 0] 115) →
      Below w.heap.size w W ∧ W.heap.size = w.heap.size + 4 ∧ W.cell? ⟨w.heap.size, 0, none⟩ = some (.slice none 0 0) ∧ W.cell? ⟨w.heap.size + 1, 0, none⟩ = some (.int .i64 0) ∧ W.cell? ⟨w.heap.size + 1 + 1, 0, none⟩ = some (.bool false) ∧
      (∀ k, k < 3 → W.frozen? ⟨w.heap.size + k, 0, none⟩ = false) ∧ RdAt W (w.heap.size + 1 + 1 + 1) bT 0) := by
    rintro W rfl
    refine ⟨(((Below.refl _ _).alloc (Nat.le_refl _) _).alloc (by simp) _).alloc (by simp; omega) _ |>.alloc (by simp; omega) _, by simp, by simp [go_sem], by simp [go_sem], by simp [go_sem], ?_, ?_⟩
    · intro k hk
      have h3 : k = 0 ∨ k = 1 ∨ k = 2 := by omega
      rcases h3 with rfl | rfl | rfl <;> simp [go_sem]
    · exact ⟨by simp, by simp [go_sem], by simp [go_sem], fun k => by simp [go_sem]⟩
  generalize hWe : (((w.alloc (.cells #[.slice none 0 0] 59)).alloc (.cells #[.int .i64 0] 3)).alloc (.cells #[.bool false] 4)).alloc (.cells #[.string bT, .int .i64 0] 115) = W at *
  obtain ⟨hBW, hsW, x0, x1, x2, xf, hr⟩ := HW.out W rfl
  clear HW hWe
  refine (list_awake W _ hr).mono ?_
  rintro e w1 ⟨gb, cap, rfl, hb, hm, hg1, hg2⟩
  have y0 := (hb.cell (p := ⟨w.heap.size, 0, none⟩) (by show w.heap.size < W.heap.size; omega) (by show w.heap.size ≠ _; omega)).trans x0
  have y1 := (hb.cell (p := ⟨w.heap.size + 1, 0, none⟩) (by show w.heap.size + 1 < W.heap.size; omega) (by show w.heap.size + 1 ≠ _; omega)).trans x1
  have y2 := (hb.cell (p := ⟨w.heap.size + 1 + 1, 0, none⟩) (by show w.heap.size + 1 + 1 < W.heap.size; omega) (by show w.heap.size + 1 + 1 ≠ _; omega)).trans x2
  have z0 : w1.frozen? ⟨w.heap.size, 0, none⟩ = false := (World.frozen?_of_block (w := W) (a := ⟨w.heap.size, 0, none⟩) (hb.block w.heap.size (by omega) (by omega))).trans (xf 0 (by omega))
  have z1 : w1.frozen? ⟨w.heap.size + 1, 0, none⟩ = false := (World.frozen?_of_block (w := W) (a := ⟨w.heap.size + 1, 0, none⟩) (hb.block (w.heap.size + 1) (by omega) (by omega))).trans (xf 1 (by omega))
  have z2 : w1.frozen? ⟨w.heap.size + 1 + 1, 0, none⟩ = false := (World.frozen?_of_block (w := W) (a := ⟨w.heap.size + 1 + 1, 0, none⟩) (hb.block (w.heap.size + 1 + 1) (by omega) (by omega))).trans (xf 2 (by omega))
  have hb1 : Below w.heap.size w w1 := hBW.trans (hb.below (by omega) (by omega))
  have HB1 := Lib.hid hb1
  have HM := Lib.hid hm
  have hsz := hb.size
  clear hb hb1 hm hBW x0 x1 x2 xf hr
  generalize hPe : w.heap.size = P at *
  go_wp2_with fail
  refine leaves_cons (f := 46) (args := #[.pointer (some ⟨P, 0, none⟩), .pointer (some ⟨P + 1, 0, none⟩), .pointer (some ⟨P + 1 + 1, 0, none⟩)]) (by simp) (by simp [go_sem]) ?_
  refine (read_idle ⟨P, 0, none⟩ ⟨P + 1, 0, none⟩ ⟨P + 1 + 1, 0, none⟩ _).mono ?_
  rintro e u' w3 ⟨rfl, rfl, he⟩
  have hF : Below P w w3 ∧ MatAt w3 gb 0 [⟨3, bJob, bAB⟩, ⟨2, bX, ⟨#[]⟩⟩] ∧ w1.heap.size = w3.heap.size ∧ w3.cell? ⟨P, 0, none⟩ = some (.slice (some ⟨gb, 0, none⟩) 2 cap) ∧ w3.cell? ⟨P + 1, 0, none⟩ = some (.int .i64 0) ∧ w3.cell? ⟨P + 1 + 1, 0, none⟩ = some (.bool true) := by
    rw [he]
    refine ⟨((HB1.out.setCell (p := ⟨P, 0, none⟩) (by simp) _).setCell (p := ⟨P + 1, 0, none⟩) (by simp) _).setCell (p := ⟨P + 1 + 1, 0, none⟩) (by show P ≤ P + 1 + 1; omega) _, ?_, by simp, by simp [go_sem, y0], by simp [go_sem, y1], by simp [go_sem, y2]⟩
    intro i x hx
    obtain ⟨m0, m1, m2⟩ := HM.out i x hx
    have hne : ∀ k j, P ≤ k → k ≤ P + 2 → (⟨k, 0, none⟩ : Addr) ≠ ⟨gb, j, none⟩ := fun k j h1 h2 e => by injection e; omega
    refine ⟨?_, ?_, ?_⟩ <;> (rw [World.cell?_setCell_other _ _ _ _ (hne _ _ (by omega) (by omega)), World.cell?_setCell_other _ _ _ _ (hne _ _ (by omega) (by omega)), World.cell?_setCell_other _ _ _ _ (hne _ _ (by omega) (by omega))]; assumption)
  obtain ⟨hb3, hm3, hs3, g0, g1, g2⟩ := hF
  clear he y0 y1 y2 z0 z1 z2
  refine ⟨.tuple #[.slice (some ⟨gb, 0, none⟩) 2 cap, .int .i64 0, .bool true], ?_, gb, cap, rfl, by rw [hPe]; exact hb3, hm3, by omega, by omega⟩
  simp [results, Tryz.results30, go_sem, *]

end Go.Proofs.YtgcmjidphoklkaaGreatDoor.Ih
