/- Walks over layer 24: routes' lists cloned; copied. -/
import Derived.Test.YteemciknbiloiaaGreatDoorRtF
namespace Go.Proofs.YteemciknbiloiaaGreatDoor.Ih
open Go.RowKit

attribute [local go_sem] run_store_one

theorem infoMat : (Tryz.prog.info? 71).map (fun i => (i.zero, i.size, i.bytes)) = some (some (.agg #[.int .i64 0, .string ⟨#[]⟩, .string ⟨#[]⟩]), 3, 40) := by kernel_rfl

def flatM (l : List Mat) : List Value := l.flatMap fun x => [.int .i64 x.op, .string x.n, .string x.v]

theorem flatM_length (l : List Mat) : (flatM l).length = l.length * 3 := by
  induction l with
  | nil => rfl
  | cons x l ih => simp [flatM] at ih ⊢; omega

theorem flatM_at (l : List Mat) (i : Nat) (x : Mat) (h : l[i]? = some x) : (flatM l)[i * 3]? = some (.int .i64 x.op) ∧ (flatM l)[i * 3 + 1]? = some (.string x.n) ∧ (flatM l)[i * 3 + 2]? = some (.string x.v) := by
  induction l generalizing i with
  | nil => simp at h
  | cons y l ih =>
    cases i with
    | zero => simp at h; subst h; simp [flatM]
    | succ i =>
      have := ih i (by simpa using h)
      rw [show (i + 1) * 3 = i * 3 + 1 + 1 + 1 by omega]
      simpa [flatM] using this

theorem flatM_one (l : List Mat) : ∀ u, u ∈ flatM l → u.oneCell' = true := by
  intro u hu
  obtain ⟨x, _, h⟩ := List.mem_flatMap.1 hu
  simp at h
  rcases h with rfl | rfl | rfl <;> rfl

theorem flatM_news {w : World} {g : Nat} {l : List Mat} (h : MatAt w g 0 l) : ∀ (j : Nat) (u : Value), (flatM l)[j]? = some u → w.cell? ((⟨g, 0, none⟩ : Addr).add j) = some u := by
  intro j u hu
  rw [show (⟨g, 0, none⟩ : Addr).add j = ⟨g, j, none⟩ by simp [Addr.add]; intro e; exact e.symm]
  have hjl : j < l.length * 3 := by rw [← flatM_length]; exact (List.getElem?_eq_some_iff.1 hu).1
  obtain ⟨x, hx⟩ : ∃ x, l[j / 3]? = some x := ⟨_, List.getElem?_eq_getElem (by omega)⟩
  obtain ⟨a1, a2, a3⟩ := flatM_at l _ x hx
  obtain ⟨b1, b2, b3⟩ := h _ x hx
  have hj : j = j / 3 * 3 ∨ j = j / 3 * 3 + 1 ∨ j = j / 3 * 3 + 2 := by omega
  rcases hj with e | e | e
  · rw [e] at hu ⊢; rw [a1] at hu; cases hu; simpa using b1
  · rw [e] at hu ⊢; rw [a2] at hu; cases hu; simpa using b2
  · rw [e] at hu ⊢; rw [a3] at hu; cases hu; simpa using b3

set_option maxRecDepth 100000 in
theorem cloneM_cl (w : World) (B : Nat) (v : Value) (ms : List Mat) (h : ClM B w v ms) (hln : ms.length ≤ 16) :
    Calls Tryz.prog 31 #[v] w (fun e w' => ∃ v', e = .returned v' ∧ ClM w.heap.size w' v' ms ∧ Below w.heap.size w w') := by
  have hnil : ∀ (w : World) (a : Option Addr) (n c n' c' : Nat), Sem.run Tryz.prog (binOp .eql 30 (.slice a n c) (.slice none n' c')) w = .ok (.bool a.isNone) w := fun w a n c n' c' => Lib.run_eql_slice_nil w _ _ a n c n' c' Tryz.underlying30
  rcases h with ⟨rfl, rfl⟩ | ⟨g, c, rfl, hne, _, hlt, hm⟩
  · go_enter Tryz.func31, Tryz.ntmps31
    go_wp2_with fail
    go_ret
    exact ⟨_, rfl, .inl ⟨rfl, rfl⟩, Below.refl _ _⟩
  · obtain ⟨i0, hi0, hz0, hz1, hz2⟩ := info_parts infoMat
    have hb0 : Below w.heap.size w (w.alloc (.cells #[] 71)) := (Below.refl _ _).alloc (Nat.le_refl _) _
    have HN := Lib.hid (flatM_news (hm.below hb0 hlt))
    have HO : Hid ((w.alloc (.cells #[] 71)).ownsRow w.heap.size 71 3 (.slice (some ⟨w.heap.size, 0, none⟩) 0 0) 0 []) := World.ownsRow_made w #[] 0 (Nat.le_refl _) (Nat.zero_le _) rfl
    have HB := Lib.hid hb0
    clear hb0
    have h0 : 0 < ms.length := List.length_pos_iff.2 hne
    clear hm
    go_enter Tryz.func31, Tryz.ntmps31
    go_wp2_with (at_builtin; go_loud (refine wpList_append_lies _ rfl _ _ _ rfl w.heap.size 71 i0 _ 3 40 Tryz.underlying30 hi0 hz0 hz1 hz2 rfl (by omega) (.slice (some ⟨w.heap.size, 0, none⟩) 0 0) 0 [] rfl HO.out ⟨g, 0, none⟩ ms.length c (flatM ms) rfl (flatM_length ms) HN.out (flatM_one ms) h0 (by unfold maxLen; omega) (by omega) (by simp) (w.heap.size + 1) (by simp) ?_))
    intro g1 cap1 w1 hown hgrow hat hgl
    have hb1 : Below w.heap.size w w1 := HB.out.grown hgrow (by simp) (fun k hk => by simp [Value.ownBlock] at hk; omega)
    have HB1 := Lib.hid hb1
    have hg1 : w.heap.size ≤ g1 := (hown.lt g1 rfl).1
    have HM : Hid (MatAt w1 g1 0 ms) := Lib.hid (fun i x hx => by
      obtain ⟨a1, a2, a3⟩ := flatM_at ms i x hx
      have hl := (List.getElem?_eq_some_iff.1 a3).1
      rw [flatM_length] at hl
      refine ⟨?_, ?_, ?_⟩
      · rw [Nat.zero_add, hown.cellAt (i * 3) (by omega)]; exact a1
      · rw [Nat.zero_add, hown.cellAt (i * 3 + 1) (by omega)]; exact a2
      · rw [Nat.zero_add, hown.cellAt (i * 3 + 2) (by omega)]; exact a3)
    clear hown hgrow hat hb1 HN HO HB
    go_wp2_with fail
    go_ret
    refine ⟨_, rfl, .inr ⟨g1, cap1, ?_, hne, hg1, hgl, HM.out⟩, HB1.out⟩
    simp

theorem cloneS_cl (w : World) (B : Nat) (v : Value) (ns : List ByteArray) (h : ClS B w v ns) (hln : ns.length ≤ 16) :
    Calls Tryz.prog 32 #[v] w (fun e w' => ∃ v', e = .returned v' ∧ ClS w.heap.size w' v' ns ∧ Below w.heap.size w w') := by
  rcases h with ⟨rfl, rfl⟩ | ⟨g, c, rfl, hne, _, _, hlt, hm⟩
  · refine (Tryz.slices_Clone_string_nil 0 0 w).mono ?_
    rintro e w' ⟨rfl, rfl⟩
    exact ⟨_, rfl, .inl ⟨rfl, rfl⟩, Below.refl _ _⟩
  · refine (Tryz.slices_Clone_string g 0 ns.length c ns w (Nat.le_refl _) (by omega) (fun j hj => by rw [Nat.zero_add]; exact hm j hj)).mono ?_
    rintro e w' ⟨v', rfl, hown, hnn, hb⟩
    have h0 : 0 < ns.length := List.length_pos_iff.2 hne
    refine ⟨v', rfl, ?_, hb⟩
    rcases hown.2 with ⟨rfl, _⟩ | ⟨g1, cap, cur, rfl, hb1, _, hcap, _⟩
    · exact absurd rfl hnn
    · refine .inr ⟨g1, cap, rfl, hne, hcap, hb1, (hown.lt g1 rfl).2, fun j hj => ?_⟩
      rw [hown.cellAt j (by omega), List.take_of_length_le (Nat.le_refl _)]
      simp [List.getD_eq_getElem?_getD, List.getElem?_eq_getElem hj]

theorem results_cell_one {fn : Func} {p : Tmp} {ty : TypeId} (h : fn.results = #[.cell p ty]) (tmps : Array Value) (P : Program) (w : World) :
    (results fn tmps).run P w = ((asAddr (tmps.getD p undef)).run P w).andThen fun a w₁ => (loadVar ty a).run P w₁ := by
  simp only [results, h]
  simp [Sem.run_bind, Result.andThen]

/-- A route in memory. -/
structure RtAt (w : World) (b : Nat) (p : Int) (rc : ByteArray) (mv bv : Value) (wt iv rp : Int) (ct : Bool) : Prop where
  lt : b < w.heap.size
  c0 : w.cell? ⟨b, 0, none⟩ = some (.int .i64 p)
  c1 : w.cell? ⟨b, 1, none⟩ = some (.string rc)
  c2 : w.cell? ⟨b, 2, none⟩ = some mv
  c3 : w.cell? ⟨b, 3, none⟩ = some bv
  c4 : w.cell? ⟨b, 4, none⟩ = some (.bool false)
  c5 : w.cell? ⟨b, 5, none⟩ = some (.int .i64 wt)
  c6 : w.cell? ⟨b, 6, none⟩ = some (.int .i64 iv)
  c7 : w.cell? ⟨b, 7, none⟩ = some (.int .i64 rp)
  c8 : w.cell? ⟨b, 8, none⟩ = some (.bool ct)
  fz : ∀ k, w.frozen? ⟨b, k, none⟩ = false

theorem RtAt.like {w w' : World} {b : Nat} {p : Int} {rc : ByteArray} {mv bv : Value} {wt iv rp : Int} {ct : Bool} (h : RtAt w b p rc mv bv wt iv rp ct) (hb : w'.heap[b]? = w.heap[b]?) (hs : w.heap.size ≤ w'.heap.size) : RtAt w' b p rc mv bv wt iv rp ct := by
  have e : ∀ k, w'.cell? ⟨b, k, none⟩ = w.cell? ⟨b, k, none⟩ := fun k => World.cell?_of_block (w := w) (a := ⟨b, k, none⟩) hb
  exact ⟨Nat.lt_of_lt_of_le h.lt hs, (e 0).trans h.c0, (e 1).trans h.c1, (e 2).trans h.c2, (e 3).trans h.c3, (e 4).trans h.c4, (e 5).trans h.c5, (e 6).trans h.c6, (e 7).trans h.c7, (e 8).trans h.c8,
    fun k => (World.frozen?_of_block (w := w) (a := ⟨b, k, none⟩) hb).trans (h.fz k)⟩
theorem RtAt.set2 {w : World} {b : Nat} {p : Int} {rc : ByteArray} {mv bv : Value} {wt iv rp : Int} {ct : Bool} (h : RtAt w b p rc mv bv wt iv rp ct) (x : Value) : RtAt (w.setCell ⟨b, 2, none⟩ x) b p rc x bv wt iv rp ct :=
  ⟨by simpa [World.setCell] using h.lt, otherR h.c0 (by decide), otherR h.c1 (by decide), World.cell?_setCell_same _ _ _ h.c2, otherR h.c3 (by decide), otherR h.c4 (by decide), otherR h.c5 (by decide), otherR h.c6 (by decide), otherR h.c7 (by decide), otherR h.c8 (by decide), fun k => by simpa using h.fz k⟩
theorem RtAt.set3 {w : World} {b : Nat} {p : Int} {rc : ByteArray} {mv bv : Value} {wt iv rp : Int} {ct : Bool} (h : RtAt w b p rc mv bv wt iv rp ct) (x : Value) : RtAt (w.setCell ⟨b, 3, none⟩ x) b p rc mv x wt iv rp ct :=
  ⟨by simpa [World.setCell] using h.lt, otherR h.c0 (by decide), otherR h.c1 (by decide), otherR h.c2 (by decide), World.cell?_setCell_same _ _ _ h.c3, otherR h.c4 (by decide), otherR h.c5 (by decide), otherR h.c6 (by decide), otherR h.c7 (by decide), otherR h.c8 (by decide), fun k => by simpa using h.fz k⟩

set_option maxRecDepth 100000 in
set_option maxHeartbeats 1000000 in
theorem copied_cl (w : World) (B : Nat) (p : Int) (rc : ByteArray) (mv bv : Value) (wt iv rp : Int) (ct : Bool) (ms : List Mat) (ns : List ByteArray) (hm : ClM B w mv ms) (hs : ClS B w bv ns) (hl1 : ms.length ≤ 16) (hl2 : ns.length ≤ 16) :
    Calls Tryz.prog 15 #[rtV p rc mv bv false wt iv rp ct] w (fun e w' => ∃ mv' bv', e = .returned (rtV p rc mv' bv' false wt iv rp ct) ∧ ClM w.heap.size w' mv' ms ∧ ClS w.heap.size w' bv' ns ∧ Below w.heap.size w w') := by
  have hm1 := hm.one
  have hs1 := hs.one
  have HM := Lib.hid hm
  have HS := Lib.hid hs
  clear hm hs
  go_enter Tryz.func15, Tryz.ntmps15
  have hW : Hid (∀ W, W = (w.alloc (.cells #[.int .i64 p, .string rc, mv, bv, .bool false, .int .i64 wt, .int .i64 iv, .int .i64 rp, .bool ct] 33)).alloc (.cells #[.int .i64 0, .string ⟨#[]⟩, .slice none 0 0, .slice none 0 0, .bool false, .int .i64 0, .int .i64 0, .int .i64 0, .bool false] 33) →
      Below w.heap.size w W ∧ W.heap.size = w.heap.size + 2 ∧ RtAt W w.heap.size p rc mv bv wt iv rp ct ∧ RtAt W (w.heap.size + 1) 0 ⟨#[]⟩ (.slice none 0 0) (.slice none 0 0) 0 0 0 false) := by
    rintro W rfl
    refine ⟨((Below.refl _ _).alloc (Nat.le_refl _) _).alloc (by simp) _, by simp, ?_, ?_⟩
    · exact RtAt.like (w := w.alloc (.cells #[.int .i64 p, .string rc, mv, bv, .bool false, .int .i64 wt, .int .i64 iv, .int .i64 rp, .bool ct] 33)) ⟨by simp, by simp, by simp, by simp, by simp, by simp, by simp, by simp, by simp, by simp, fun k => by simp⟩ (Below.heap_alloc _ _ _ (by simp)) (by simp)
    · exact ⟨by simp, by simp, by simp, by simp, by simp, by simp, by simp, by simp, by simp, by simp, fun k => by simp⟩
  go_wp2_with fail
  generalize hWe : (w.alloc (.cells #[.int .i64 p, .string rc, mv, bv, .bool false, .int .i64 wt, .int .i64 iv, .int .i64 rp, .bool ct] 33)).alloc (.cells #[.int .i64 0, .string ⟨#[]⟩, .slice none 0 0, .slice none 0 0, .bool false, .int .i64 0, .int .i64 0, .int .i64 0, .bool false] 33) = W
  obtain ⟨hbW, hszW, hr, hr2⟩ := hW.out W hWe.symm
  clear hW hWe
  refine (cloneM_cl W B mv ms (HM.out.below hbW) hl1).mono ?_
  rintro e w1 ⟨mv1, rfl, hcm, hb1⟩
  have hz1 := hb1.size
  obtain ⟨a1, n1, k1, rfl⟩ := hcm.shape
  have hr1 := hr.like (hb1.block _ hr.lt) hb1.size
  have hr21 := hr2.like (hb1.block _ hr2.lt) hb1.size
  have c2 := hr1.c2
  have f2 := hr1.fz 2
  have hB1 : Below w.heap.size w w1 := hbW.trans (hb1.mono (by omega))
  have hr3 := hr1.set2 (.slice a1 n1 k1)
  have hr22 : RtAt (w1.setCell ⟨w.heap.size, 2, none⟩ (.slice a1 n1 k1)) (w.heap.size + 1) 0 ⟨#[]⟩ (.slice none 0 0) (.slice none 0 0) 0 0 0 false := hr21.like (Below.heap_setCell _ _ _ _ (by simp)) (by simp [World.setCell])
  have hB2 : Below w.heap.size w (w1.setCell ⟨w.heap.size, 2, none⟩ (.slice a1 n1 k1)) := hB1.setCell (p := ⟨w.heap.size, 2, none⟩) (Nat.le_refl _) _
  have hcm2 : ClM (w.heap.size + 2) (w1.setCell ⟨w.heap.size, 2, none⟩ (.slice a1 n1 k1)) (.slice a1 n1 k1) ms := (hcm.mono (by omega)).up (by simp [World.setCell]) (fun k hk _ => Below.heap_setCell _ _ _ _ (by show k ≠ w.heap.size; omega))
  have d3 := hr3.c3
  have HR3 := Lib.hid hr3
  have HR22 := Lib.hid hr22
  have HB2 := Lib.hid hB2
  have HCM2 := Lib.hid hcm2
  have hzz : w.heap.size + 2 ≤ (w1.setCell ⟨w.heap.size, 2, none⟩ (.slice a1 n1 k1)).heap.size := by rw [setCell_size]; omega
  clear hr hr2 hr1 hr21 hB1 hr3 hr22 hB2 hcm hcm2 hbW hb1 HM
  go_wp2_with fail
  generalize w1.setCell ⟨w.heap.size, 2, none⟩ (.slice a1 n1 k1) = W2 at *
  refine (cloneS_cl W2 B bv ns (HS.out.below HB2.out) hl2).mono ?_
  rintro e w3 ⟨bv1, rfl, hcs, hb3⟩
  have hz3 := hb3.size
  obtain ⟨a2, n2, k2, rfl⟩ := hcs.shape
  have hr4 := HR3.out.like (hb3.block _ HR3.out.lt) hb3.size
  have hr24 := HR22.out.like (hb3.block _ HR22.out.lt) hb3.size
  have e3 := hr4.c3
  have f3 := hr4.fz 3
  have hr5 := hr4.set3 (.slice a2 n2 k2)
  obtain ⟨_, y0, y1, y2, y3, y4, y5, y6, y7, y8, yf⟩ := hr24
  have hcs2 : ClS (w.heap.size + 2) (w3.setCell ⟨w.heap.size, 3, none⟩ (.slice a2 n2 k2)) (.slice a2 n2 k2) ns := (hcs.mono (by omega)).up (by simp [World.setCell]) (fun k hk _ => Below.heap_setCell _ _ _ _ (by show k ≠ w.heap.size; omega))
  have hcm3 : ClM (w.heap.size + 2) (w3.setCell ⟨w.heap.size, 3, none⟩ (.slice a2 n2 k2)) (.slice a1 n1 k1) ms := (HCM2.out.below hb3).up (by simp [World.setCell]) (fun k hk _ => Below.heap_setCell _ _ _ _ (by show k ≠ w.heap.size; omega))
  have hB3 : Below w.heap.size w (w3.setCell ⟨w.heap.size, 3, none⟩ (.slice a2 n2 k2)) := (HB2.out.trans (hb3.mono (by omega))).setCell (p := ⟨w.heap.size, 3, none⟩) (Nat.le_refl _) _
  have hr25 : RtAt (w3.setCell ⟨w.heap.size, 3, none⟩ (.slice a2 n2 k2)) (w.heap.size + 1) 0 ⟨#[]⟩ (.slice none 0 0) (.slice none 0 0) 0 0 0 false := (RtAt.mk (by omega) y0 y1 y2 y3 y4 y5 y6 y7 y8 yf).like (Below.heap_setCell _ _ _ _ (by simp)) (by simp [World.setCell])
  obtain ⟨_, g0, g1, g2, g3, g4, g5, g6, g7, g8, _⟩ := hr5
  have HR25 := Lib.hid hr25
  have HB3 := Lib.hid hB3
  have HCS2 := Lib.hid hcs2
  have HCM3 := Lib.hid hcm3
  clear hr4 hcs hb3 hcs2 hcm3 hB3 hr25 HR3 HR22 HB2 HCM2 HS
  go_wp2_with fail
  have hV : ∀ V, V = (((((((((w3.setCell ⟨w.heap.size, 3, none⟩ (.slice a2 n2 k2)).setCell ⟨w.heap.size + 1, 0, none⟩ (.int .i64 p)).setCell ⟨w.heap.size + 1, 1, none⟩ (.string rc)).setCell ⟨w.heap.size + 1, 2, none⟩ (.slice a1 n1 k1)).setCell ⟨w.heap.size + 1, 3, none⟩ (.slice a2 n2 k2)).setCell ⟨w.heap.size + 1, 4, none⟩ (.bool false)).setCell ⟨w.heap.size + 1, 5, none⟩ (.int .i64 wt)).setCell ⟨w.heap.size + 1, 6, none⟩ (.int .i64 iv)).setCell ⟨w.heap.size + 1, 7, none⟩ (.int .i64 rp)).setCell ⟨w.heap.size + 1, 8, none⟩ (.bool ct) →
      RtAt V (w.heap.size + 1) p rc (.slice a1 n1 k1) (.slice a2 n2 k2) wt iv rp ct ∧ ClM w.heap.size V (.slice a1 n1 k1) ms ∧ ClS w.heap.size V (.slice a2 n2 k2) ns ∧ Below w.heap.size w V := by
    rintro V rfl
    have hr := HR25.out
    have e : ∀ (X : World) (k : Nat) (v : Value), w.heap.size ≤ X.heap.size → Below w.heap.size w X → Below w.heap.size w (X.setCell ⟨w.heap.size + 1, k, none⟩ v) := fun X k v _ h => h.setCell (p := ⟨w.heap.size + 1, k, none⟩) (by simp) _
    have hs9 : ∀ (X : World) (k : Nat) (v : Value) (q : Nat), q ≠ w.heap.size + 1 → (X.setCell ⟨w.heap.size + 1, k, none⟩ v).heap[q]? = X.heap[q]? := fun X k v q hq => Below.heap_setCell _ _ _ _ hq
    refine ⟨?_, ?_, ?_, ?_⟩
    · have h0 : ∀ {X : World} {k : Nat} {u x : Value}, X.cell? ⟨w.heap.size + 1, k, none⟩ = some u → (X.setCell ⟨w.heap.size + 1, k, none⟩ x).cell? ⟨w.heap.size + 1, k, none⟩ = some x := fun h => World.cell?_setCell_same _ _ _ h
      have hn : ∀ {X : World} {k j : Nat} {u x : Value}, X.cell? ⟨w.heap.size + 1, k, none⟩ = some u → j ≠ k → (X.setCell ⟨w.heap.size + 1, j, none⟩ x).cell? ⟨w.heap.size + 1, k, none⟩ = some u := fun h q => otherR h q
      exact ⟨by have q := hr.lt; simp only [setCell_size] at q ⊢; exact q,
        hn (hn (hn (hn (hn (hn (hn (hn (h0 hr.c0) (by decide)) (by decide)) (by decide)) (by decide)) (by decide)) (by decide)) (by decide)) (by decide),
        hn (hn (hn (hn (hn (hn (hn (h0 (hn hr.c1 (by decide))) (by decide)) (by decide)) (by decide)) (by decide)) (by decide)) (by decide)) (by decide),
        hn (hn (hn (hn (hn (hn (h0 (hn (hn hr.c2 (by decide)) (by decide))) (by decide)) (by decide)) (by decide)) (by decide)) (by decide)) (by decide),
        hn (hn (hn (hn (hn (h0 (hn (hn (hn hr.c3 (by decide)) (by decide)) (by decide))) (by decide)) (by decide)) (by decide)) (by decide)) (by decide),
        hn (hn (hn (hn (h0 (hn (hn (hn (hn hr.c4 (by decide)) (by decide)) (by decide)) (by decide))) (by decide)) (by decide)) (by decide)) (by decide),
        hn (hn (hn (h0 (hn (hn (hn (hn (hn hr.c5 (by decide)) (by decide)) (by decide)) (by decide)) (by decide))) (by decide)) (by decide)) (by decide),
        hn (hn (h0 (hn (hn (hn (hn (hn (hn hr.c6 (by decide)) (by decide)) (by decide)) (by decide)) (by decide)) (by decide))) (by decide)) (by decide),
        hn (h0 (hn (hn (hn (hn (hn (hn (hn hr.c7 (by decide)) (by decide)) (by decide)) (by decide)) (by decide)) (by decide)) (by decide))) (by decide),
        h0 (hn (hn (hn (hn (hn (hn (hn (hn hr.c8 (by decide)) (by decide)) (by decide)) (by decide)) (by decide)) (by decide)) (by decide)) (by decide)),
        fun k => by simp only [World.frozen?_setCell]; have := hr.fz k; rwa [World.frozen?_setCell] at this⟩
    · exact (HCM3.out.up (by simp only [setCell_size]; exact Nat.le_refl _) (fun k hk _ => by simp only [hs9 _ _ _ k (by omega)])).mono (by omega)
    · exact (HCS2.out.up (by simp only [setCell_size]; exact Nat.le_refl _) (fun k hk _ => by simp only [hs9 _ _ _ k (by omega)])).mono (by omega)
    · have hz := HB3.out.size
      iterate 9 (refine Below.setCell ?_ (by simp) _)
      exact HB3.out
  generalize hVe : (((((((((w3.setCell ⟨w.heap.size, 3, none⟩ (.slice a2 n2 k2)).setCell ⟨w.heap.size + 1, 0, none⟩ (.int .i64 p)).setCell ⟨w.heap.size + 1, 1, none⟩ (.string rc)).setCell ⟨w.heap.size + 1, 2, none⟩ (.slice a1 n1 k1)).setCell ⟨w.heap.size + 1, 3, none⟩ (.slice a2 n2 k2)).setCell ⟨w.heap.size + 1, 4, none⟩ (.bool false)).setCell ⟨w.heap.size + 1, 5, none⟩ (.int .i64 wt)).setCell ⟨w.heap.size + 1, 6, none⟩ (.int .i64 iv)).setCell ⟨w.heap.size + 1, 7, none⟩ (.int .i64 rp)).setCell ⟨w.heap.size + 1, 8, none⟩ (.bool ct) = V
  obtain ⟨hv, hvm, hvs, hvb⟩ := hV V hVe.symm
  clear hV hVe
  obtain ⟨_, v0, v1, v2, v3, v4, v5, v6, v7, v8, _⟩ := hv
  refine bodyPost_ret (v := rtV p rc (.slice a1 n1 k1) (.slice a2 n2 k2) false wt iv rp ct) ?_ rfl ?_
  · rw [results_cell_one (p := 2) (ty := 33) rfl]
    go_simp
  · exact ⟨_, _, rfl, hvm, hvs, hvb⟩

end Go.Proofs.YteemciknbiloiaaGreatDoor.Ih
