/- Walk over layer 23: does a rule of two plain matchers and one label hold? -/
import Derived.Test.YtjojhlkbcjhonaaDoorIhJ
namespace Go.Proofs.YtjojhlkbcjhonaaDoor.Ih
open Go.RowKit

/-- The frame of a rule's walks: of the blocks that were there a's and b's alone may have turned. -/
structure But2 (a b : Nat) (w w' : World) : Prop where
  os : w'.os = w.os
  tape : w'.tape = w.tape
  output : w'.output = w.output
  size : w.heap.size ≤ w'.heap.size
  block : ∀ k, k < w.heap.size → k ≠ a → k ≠ b → w'.heap[k]? = w.heap[k]?

theorem But2.refl (a b : Nat) (w : World) : But2 a b w w := ⟨rfl, rfl, rfl, Nat.le_refl _, fun _ _ _ _ => rfl⟩
theorem But2.trans {a b : Nat} {w1 w2 w3 : World} (h : But2 a b w1 w2) (k : But2 a b w2 w3) : But2 a b w1 w3 :=
  ⟨k.os.trans h.os, k.tape.trans h.tape, k.output.trans h.output, Nat.le_trans h.size k.size, fun i hi h1 h2 => (k.block i (Nat.lt_of_lt_of_le hi h.size) h1 h2).trans (h.block i hi h1 h2)⟩
theorem But.left {a b : Nat} {w w' : World} (h : But a w w') : But2 a b w w' := ⟨h.os, h.tape, h.output, h.size, fun k hk h1 _ => h.block k hk h1⟩
theorem But.right {a b : Nat} {w w' : World} (h : But b w w') : But2 a b w w' := ⟨h.os, h.tape, h.output, h.size, fun k hk _ h2 => h.block k hk h2⟩
theorem But2.of {a b : Nat} {w w' : World} (h : Below w.heap.size w w') : But2 a b w w' := ⟨h.os, h.tape, h.output, h.size, fun k hk _ _ => h.block k hk⟩
theorem But2.below {a b B : Nat} {w w' : World} (h : But2 a b w w') (ha : B ≤ a) (hb : B ≤ b) (hB : B ≤ w.heap.size) : Below B w w' :=
  ⟨h.os, h.tape, h.output, h.size, fun k hk => h.block k (by omega) (by omega) (by omega)⟩
theorem But2.cell {a b : Nat} {w w' : World} (h : But2 a b w w') {p : Addr} (hp : p.block < w.heap.size) (h1 : p.block ≠ a) (h2 : p.block ≠ b) : w'.cell? p = w.cell? p := World.cell?_of_block (w := w) (h.block p.block hp h1 h2)

theorem LabAt.but2 {w w' : World} {b off a1 a2 : Nat} {l : List Lab} (h : LabAt w b off l) (hb : But2 a1 a2 w w') (hlt : b < w.heap.size) (h1 : b ≠ a1) (h2 : b ≠ a2) : LabAt w' b off l := fun i x hx =>
  ⟨(hb.cell (p := ⟨b, off + i * 2, none⟩) hlt h1 h2).trans (h i x hx).1, (hb.cell (p := ⟨b, off + i * 2 + 1, none⟩) hlt h1 h2).trans (h i x hx).2⟩

theorem tabs_but2 {w w' : World} {a b : Nat} (h : Lib.Utf8Tabs 0 1 w) (hb : But2 a b w w') (h1 : 2 ≤ a) (h2 : 2 ≤ b) (hz : 2 ≤ w.heap.size) : Lib.Utf8Tabs 0 1 w' :=
  tabs_keep h fun k hk => hb.block k (by omega) (by omega) (by omega)

/-- A rule in memory. -/
structure RuleAt (w : World) (xs gs ms xt gt mt eb B : Nat) (s t : Mat) (cn : ByteArray) : Prop where
  ls : ListAt w xs gs ms s B
  lt : ListAt w xt gt mt t B
  eq : w.cell? ⟨eb, 0, none⟩ = some (.string cn)
  elt : eb < B
  s1 : ms ≠ xt
  s2 : ms ≠ gt
  s3 : ms ≠ mt
  s4 : ms ≠ eb
  t1 : mt ≠ xs
  t2 : mt ≠ gs
  t4 : mt ≠ eb

theorem RuleAt.source {w w' : World} {xs gs ms xt gt mt eb B : Nat} {s t : Mat} {cn : ByteArray} (h : RuleAt w xs gs ms xt gt mt eb B s t cn) (hb : But ms w w') (hl : ListAt w' xs gs ms s B) : RuleAt w' xs gs ms xt gt mt eb B s t cn where
  ls := hl
  lt := h.lt.but hb h.ls.lt3 h.s1 h.s2 h.s3
  eq := (hb.cell (p := ⟨eb, 0, none⟩) (Nat.lt_of_lt_of_le h.elt h.ls.le) (fun e => h.s4 e.symm)).trans h.eq
  elt := h.elt
  s1 := h.s1
  s2 := h.s2
  s3 := h.s3
  s4 := h.s4
  t1 := h.t1
  t2 := h.t2
  t4 := h.t4

theorem RuleAt.target {w w' : World} {xs gs ms xt gt mt eb B : Nat} {s t : Mat} {cn : ByteArray} (h : RuleAt w xs gs ms xt gt mt eb B s t cn) (hb : But mt w w') (hl : ListAt w' xt gt mt t B) : RuleAt w' xs gs ms xt gt mt eb B s t cn where
  ls := h.ls.but hb h.lt.lt3 h.t1 h.t2 (fun e => h.s3 e.symm)
  lt := hl
  eq := (hb.cell (p := ⟨eb, 0, none⟩) (Nat.lt_of_lt_of_le h.elt h.ls.le) (fun e => h.t4 e.symm)).trans h.eq
  elt := h.elt
  s1 := h.s1
  s2 := h.s2
  s3 := h.s3
  s4 := h.s4
  t1 := h.t1
  t2 := h.t2
  t4 := h.t4

theorem RuleAt.below {w w' : World} {xs gs ms xt gt mt eb B : Nat} {s t : Mat} {cn : ByteArray} (h : RuleAt w xs gs ms xt gt mt eb B s t cn) (hb : Below w.heap.size w w') : RuleAt w' xs gs ms xt gt mt eb B s t cn where
  ls := h.ls.below hb
  lt := h.lt.below hb
  eq := (hb.cell (p := ⟨eb, 0, none⟩) (Nat.lt_of_lt_of_le h.elt h.ls.le)).trans h.eq
  elt := h.elt
  s1 := h.s1
  s2 := h.s2
  s3 := h.s3
  s4 := h.s4
  t1 := h.t1
  t2 := h.t2
  t4 := h.t4

abbrev labelsFn (b : Nat) : Value := .func (.func 52) #[.pointer (some ⟨b, 0, none⟩)] #[]

/-- What stays while a rule is asked. -/
structure HSt (w : World) (P xs gs ms xt gt mt eb ec B : Nat) (s t : Mat) (cn : ByteArray) (W : World) : Prop where
  but : But2 ms mt w W
  rule : RuleAt W xs gs ms xt gt mt eb B s t cn
  p0 : W.cell? ⟨P, 0, none⟩ = some (labelsFn xs)
  p1 : W.cell? ⟨P, 1, none⟩ = some (labelsFn xt)
  p2 : W.cell? ⟨P, 2, none⟩ = some (.slice (some ⟨eb, 0, none⟩) 1 ec)
  plt : P < W.heap.size
  ple : B ≤ P

theorem HSt.source {w W W' : World} {P xs gs ms xt gt mt eb ec B : Nat} {s t : Mat} {cn : ByteArray} (h : HSt w P xs gs ms xt gt mt eb ec B s t cn W) (hb : But ms W W') (hl : ListAt W' xs gs ms s B) : HSt w P xs gs ms xt gt mt eb ec B s t cn W' := by
  have h1 := h.rule.ls.lt3
  have h2 := h.ple
  have e : ∀ k, W'.cell? ⟨P, k, none⟩ = W.cell? ⟨P, k, none⟩ := fun k => hb.cell (p := ⟨P, k, none⟩) h.plt (by show P ≠ ms; omega)
  exact ⟨h.but.trans hb.left, h.rule.source hb hl, (e 0).trans h.p0, (e 1).trans h.p1, (e 2).trans h.p2, Nat.lt_of_lt_of_le h.plt hb.size, h.ple⟩

theorem HSt.target {w W W' : World} {P xs gs ms xt gt mt eb ec B : Nat} {s t : Mat} {cn : ByteArray} (h : HSt w P xs gs ms xt gt mt eb ec B s t cn W) (hb : But mt W W') (hl : ListAt W' xt gt mt t B) : HSt w P xs gs ms xt gt mt eb ec B s t cn W' := by
  have h1 := h.rule.lt.lt3
  have h2 := h.ple
  have e : ∀ k, W'.cell? ⟨P, k, none⟩ = W.cell? ⟨P, k, none⟩ := fun k => hb.cell (p := ⟨P, k, none⟩) h.plt (by show P ≠ mt; omega)
  exact ⟨h.but.trans hb.right, h.rule.target hb hl, (e 0).trans h.p0, (e 1).trans h.p1, (e 2).trans h.p2, Nat.lt_of_lt_of_le h.plt hb.size, h.ple⟩

theorem HSt.below {w W W' : World} {P xs gs ms xt gt mt eb ec B : Nat} {s t : Mat} {cn : ByteArray} (h : HSt w P xs gs ms xt gt mt eb ec B s t cn W) (hb : Below W.heap.size W W') : HSt w P xs gs ms xt gt mt eb ec B s t cn W' := by
  have e : ∀ k, W'.cell? ⟨P, k, none⟩ = W.cell? ⟨P, k, none⟩ := fun k => hb.cell (p := ⟨P, k, none⟩) h.plt
  exact ⟨h.but.trans (.of hb), h.rule.below hb, (e 0).trans h.p0, (e 1).trans h.p1, (e 2).trans h.p2, Nat.lt_of_lt_of_le h.plt hb.size, h.ple⟩

/-- Does a rule hold a target back for a source? -/
def holdsB (s t : Mat) (cn : ByteArray) (src tgt : List Lab) : Bool :=
  mSays s.op s.v (labGet src s.n) && mSays t.op t.v (labGet tgt t.n) && !(mSays s.op s.v (labGet tgt s.n) && mSays t.op t.v (labGet src t.n)) && ((labGet src cn).toList == (labGet tgt cn).toList)

set_option maxRecDepth 100000 in
set_option maxHeartbeats 4000000 in
theorem holds_any (w : World) (xs gs ms xt gt mt eb ec B : Nat) (s t : Mat) (cn : ByteArray) (sb so sc tb to_ tc : Nat) (src tgt : List Lab)
    (h : RuleAt w xs gs ms xt gt mt eb B s t cn) (hs : LabAt w sb so src) (ht : LabAt w tb to_ tgt) (hsb : sb < w.heap.size) (htb : tb < w.heap.size) (hsB : B ≤ sb) (htB : B ≤ tb) (hsl : src.length ≤ 1000000) (htl : tgt.length ≤ 1000000)
    (hT : Lib.Utf8Tabs 0 1 w) (h2 : 2 ≤ ms) (h3 : 2 ≤ mt) (hos : s.Ok) (hot : t.Ok) :
    Calls Tryd.prog 36 #[.agg #[labelsFn xs, labelsFn xt, .slice (some ⟨eb, 0, none⟩) 1 ec], .slice (some ⟨sb, so, none⟩) src.length sc, .slice (some ⟨tb, to_, none⟩) tgt.length tc] w
      (fun e w' => e = .returned (.bool (holdsB s t cn src tgt)) ∧ But2 ms mt w w' ∧ RuleAt w' xs gs ms xt gt mt eb B s t cn) := by
  obtain ⟨r, hr⟩ : ∃ r, holdsB s t cn src tgt = r := ⟨_, rfl⟩
  rw [hr]
  have HR := Lib.hid hr
  have hlt3 := h.ls.lt3
  have hlt4 := h.lt.lt3
  have hle := h.ls.le
  have H := Lib.hid h
  have HS := Lib.hid hs
  have HTG := Lib.hid ht
  have HT := Lib.hid hT
  have HOS := Lib.hid hos
  have HOT := Lib.hid hot
  have H0 : Hid (∀ W, W = w.alloc (.cells #[labelsFn xs, labelsFn xt, .slice (some ⟨eb, 0, none⟩) 1 ec] 90) → HSt w w.heap.size xs gs ms xt gt mt eb ec B s t cn W) := by
    rintro W rfl
    have hA : Below w.heap.size w (w.alloc (.cells #[labelsFn xs, labelsFn xt, .slice (some ⟨eb, 0, none⟩) 1 ec] 90)) := (Below.refl _ _).alloc (Nat.le_refl _) _
    exact ⟨.of hA, H.out.below hA, by simp, by simp, by simp, by simp, hle⟩
  clear h hs ht hT hos hot hr
  go_enter Tryd.func36, Tryd.ntmps36
  go_wp2_with fail
  generalize hWe : w.alloc (.cells #[labelsFn xs, labelsFn xt, .slice (some ⟨eb, 0, none⟩) 1 ec] 90) = w1 at *
  have H1 := Lib.hid (H0.out w1 rfl)
  clear H0 hWe
  have q1 := H1.out.rule.ls
  refine (list_labels _ xs gs ms B s sb so sc src (HS.out.but2 H1.out.but hsb (by omega) (by omega)) (Nat.lt_of_lt_of_le hsb H1.out.but.size) hsl (tabs_but2 HT.out H1.out.but h2 h3 (by omega)) h2 q1 HOS.out).mono ?_
  rintro e w2 ⟨rfl, hb, hl⟩
  have H2 := Lib.hid (H1.out.source hb hl)
  clear hb hl q1
  obtain ⟨a1, ha1⟩ : ∃ a, mSays s.op s.v (labGet src s.n) = a := ⟨_, rfl⟩
  rw [ha1]
  cases a1 with
  | false =>
    have HA := Lib.hid ha1
    clear ha1
    go_wp2_with fail
    go_ret
    exact ⟨by rw [← HR.out]; simp [holdsB, HA.out], H2.out.but, H2.out.rule⟩
  | true =>
    have p1 := H2.out.p1
    go_wp2_with fail
    have q2 := H2.out.rule.lt
    refine (list_labels _ xt gt mt B t tb to_ tc tgt (HTG.out.but2 H2.out.but htb (by omega) (by omega)) (Nat.lt_of_lt_of_le htb H2.out.but.size) htl (tabs_but2 HT.out H2.out.but h2 h3 (by omega)) h3 q2 HOT.out).mono ?_
    rintro e w3 ⟨rfl, hb, hl⟩
    have H3 := Lib.hid (H2.out.target hb hl)
    clear hb hl q2
    obtain ⟨a2, ha2⟩ : ∃ a, mSays t.op t.v (labGet tgt t.n) = a := ⟨_, rfl⟩
    rw [ha2]
    cases a2 with
    | false =>
      have HA := Lib.hid (And.intro ha1 ha2)
      clear ha1 ha2 p1
      go_wp2_with fail
      go_ret
      exact ⟨by rw [← HR.out]; simp [holdsB, HA.out], H3.out.but, H3.out.rule⟩
    | true =>
      clear p1
      have p0 := H3.out.p0
      go_wp2_with fail
      have q3 := H3.out.rule.ls
      refine (list_labels _ xs gs ms B s tb to_ tc tgt (HTG.out.but2 H3.out.but htb (by omega) (by omega)) (Nat.lt_of_lt_of_le htb H3.out.but.size) htl (tabs_but2 HT.out H3.out.but h2 h3 (by omega)) h2 q3 HOS.out).mono ?_
      rintro e w4 ⟨rfl, hb, hl⟩
      have H4 := Lib.hid (H3.out.source hb hl)
      clear hb hl q3
      clear p0
      obtain ⟨a3, ha3⟩ : ∃ a, mSays s.op s.v (labGet tgt s.n) = a := ⟨_, rfl⟩
      rw [ha3]
      cases a3 with
      | false =>
        have HA := Lib.hid (And.intro ha1 (And.intro ha2 ha3))
        clear ha1 ha2 ha3
        have p2 := H4.out.p2
        go_wp2_with fail
        go_loopg [36] 1 (fun g i wr => (g = 1 ∧ i = .int .i64 0 ∧ wr = w4) ∨ (g = 0 ∧ i = .int .i64 1 ∧ ((labGet src cn).toList == (labGet tgt cn).toList) = true ∧ HSt w w.heap.size xs gs ms xt gt mt eb ec B s t cn wr))
        case atStart => exact .inl ⟨rfl, rfl, rfl⟩
        case round =>
          rcases hrel with ⟨rfl, rfl, rfl⟩ | ⟨rfl, rfl, heq, hst⟩
          · have ce := H4.out.rule.eq
            go_wp2_with fail
            refine (get_any _ sb so sc src cn (HS.out.but2 H4.out.but hsb (by omega) (by omega)) (Nat.lt_of_lt_of_le hsb H4.out.but.size) hsl).mono ?_
            rintro e w8 ⟨rfl, hb8⟩
            rw [show ((src.find? (fun x => x.1.toList == cn.toList)).map (·.2)).getD ⟨#[]⟩ = labGet src cn from rfl]
            have H8 := Lib.hid (H4.out.below hb8)
            clear hb8
            obtain ⟨g1, hg1⟩ : ∃ g, labGet src cn = g := ⟨_, rfl⟩
            rw [hg1]
            go_wp2_with fail
            refine (get_any _ tb to_ tc tgt cn (HTG.out.but2 H8.out.but htb (by omega) (by omega)) (Nat.lt_of_lt_of_le htb H8.out.but.size) htl).mono ?_
            rintro e w9 ⟨rfl, hb9⟩
            rw [show ((tgt.find? (fun x => x.1.toList == cn.toList)).map (·.2)).getD ⟨#[]⟩ = labGet tgt cn from rfl]
            have H9 := Lib.hid (H8.out.below hb9)
            clear hb9
            obtain ⟨g2, hg2⟩ : ∃ g, labGet tgt cn = g := ⟨_, rfl⟩
            rw [hg2]
            by_cases hgg : g1.toList = g2.toList
            · go_wp2_with fail
              go_roundg 0
              case measure => omega
              case rel => exact .inr ⟨rfl, rfl, by rw [hg1, hg2]; exact beq_iff_eq.2 hgg, H9.out⟩
            · have hgb : (g1.toList == g2.toList) = false := beq_eq_false_iff_ne.2 hgg
              go_wp2_with fail
              go_ret
              exact ⟨by rw [← HR.out]; simp [holdsB, HA.out, hg1, hg2, hgg], H9.out.but, H9.out.rule⟩
          · have HE := Lib.hid heq
            have HF := Lib.hid hst
            clear heq hst
            go_wp2_with fail
            go_ret
            exact ⟨by rw [← HR.out]; simp [holdsB, HA.out, HE.out], HF.out.but, HF.out.rule⟩
      | true =>
        have p1 := H4.out.p1
        go_wp2_with fail
        have q4 := H4.out.rule.lt
        refine (list_labels _ xt gt mt B t sb so sc src (HS.out.but2 H4.out.but hsb (by omega) (by omega)) (Nat.lt_of_lt_of_le hsb H4.out.but.size) hsl (tabs_but2 HT.out H4.out.but h2 h3 (by omega)) h3 q4 HOT.out).mono ?_
        rintro e w5 ⟨rfl, hb, hl⟩
        have H5 := Lib.hid (H4.out.target hb hl)
        clear hb hl q4
        clear p1
        obtain ⟨a4, ha4⟩ : ∃ a, mSays t.op t.v (labGet src t.n) = a := ⟨_, rfl⟩
        rw [ha4]
        have HA := Lib.hid (And.intro ha1 (And.intro ha2 (And.intro ha3 ha4)))
        clear ha1 ha2 ha3
        cases a4 with
        | true =>
          clear ha4
          go_wp2_with fail
          go_ret
          exact ⟨by rw [← HR.out]; simp [holdsB, HA.out], H5.out.but, H5.out.rule⟩
        | false =>
          clear ha4
          have p2 := H5.out.p2
          go_wp2_with fail
          go_loopg [36] 1 (fun g i wr => (g = 1 ∧ i = .int .i64 0 ∧ wr = w5) ∨ (g = 0 ∧ i = .int .i64 1 ∧ ((labGet src cn).toList == (labGet tgt cn).toList) = true ∧ HSt w w.heap.size xs gs ms xt gt mt eb ec B s t cn wr))
          case atStart => exact .inl ⟨rfl, rfl, rfl⟩
          case round =>
            rcases hrel with ⟨rfl, rfl, rfl⟩ | ⟨rfl, rfl, heq, hst⟩
            · have ce := H5.out.rule.eq
              go_wp2_with fail
              refine (get_any _ sb so sc src cn (HS.out.but2 H5.out.but hsb (by omega) (by omega)) (Nat.lt_of_lt_of_le hsb H5.out.but.size) hsl).mono ?_
              rintro e w8 ⟨rfl, hb8⟩
              rw [show ((src.find? (fun x => x.1.toList == cn.toList)).map (·.2)).getD ⟨#[]⟩ = labGet src cn from rfl]
              have H8 := Lib.hid (H5.out.below hb8)
              clear hb8
              obtain ⟨g1, hg1⟩ : ∃ g, labGet src cn = g := ⟨_, rfl⟩
              rw [hg1]
              go_wp2_with fail
              refine (get_any _ tb to_ tc tgt cn (HTG.out.but2 H8.out.but htb (by omega) (by omega)) (Nat.lt_of_lt_of_le htb H8.out.but.size) htl).mono ?_
              rintro e w9 ⟨rfl, hb9⟩
              rw [show ((tgt.find? (fun x => x.1.toList == cn.toList)).map (·.2)).getD ⟨#[]⟩ = labGet tgt cn from rfl]
              have H9 := Lib.hid (H8.out.below hb9)
              clear hb9
              obtain ⟨g2, hg2⟩ : ∃ g, labGet tgt cn = g := ⟨_, rfl⟩
              rw [hg2]
              by_cases hgg : g1.toList = g2.toList
              · go_wp2_with fail
                go_roundg 0
                case measure => omega
                case rel => exact .inr ⟨rfl, rfl, by rw [hg1, hg2]; exact beq_iff_eq.2 hgg, H9.out⟩
              · have hgb : (g1.toList == g2.toList) = false := beq_eq_false_iff_ne.2 hgg
                go_wp2_with fail
                go_ret
                exact ⟨by rw [← HR.out]; simp [holdsB, HA.out, hg1, hg2, hgg], H9.out.but, H9.out.rule⟩
            · have HE := Lib.hid heq
              have HF := Lib.hid hst
              clear heq hst
              go_wp2_with fail
              go_ret
              exact ⟨by rw [← HR.out]; simp [holdsB, HA.out, HE.out], HF.out.but, HF.out.rule⟩

end Go.Proofs.YtjojhlkbcjhonaaDoor.Ih
