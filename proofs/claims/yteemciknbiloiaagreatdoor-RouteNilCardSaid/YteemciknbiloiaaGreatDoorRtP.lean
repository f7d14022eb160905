/- Walks over layer 24: Match of the law's tree. -/
import Derived.Test.YteemciknbiloiaaGreatDoorRtO
namespace Go.Proofs.YteemciknbiloiaaGreatDoor.Ih
open Go.RowKit

attribute [local go_sem] run_store_one

theorem row_at {w : World} {base : Nat} {e : TypeId} {size : Nat} {v : Value} {n : Nat} {xs : List Value} (h : w.ownsRow base e size v n xs) (hn : xs ≠ []) : ∃ g c, v = .slice (some ⟨g, 0, none⟩) n c ∧ ∀ i, i < n * size → w.cell? ⟨g, i, none⟩ = xs[i]? := by
  rcases h.2 with ⟨_, rfl⟩ | ⟨g, cap, cur, rfl, _⟩
  · exact absurd (List.length_eq_zero_iff.1 (by simpa using h.1)) hn
  · exact ⟨g, cap, rfl, fun i hi => h.cellAt i hi⟩

/-- The tree that New has made of three routes, the first one's kids the others. -/
theorem tree_t3 {w : World} {tb kb lo : Nat} {lv sv kv : Value} {r0 r1 r2 : Rt} {c0 c1 c2 : Rec} (h : TrAt w tb kb lo 3 lv sv kv [(r0, c0), (r1, c1), (r2, c2)] [(r0, c0), (r1, c1), (r2, c2)] 2) :
    ∃ gl gs gk cl cs ck, lv = .slice (some ⟨gl, 0, none⟩) 3 cl ∧ (∀ i, i < 27 → w.cell? ⟨gl, i, none⟩ = (flatR [(r0, c0), (r1, c1), (r2, c2)])[i]?) ∧ T3 w tb gl gs kb gk cl cs ck c0 c1 c2 r1.ct r2.ct ∧ ∀ d, d ∈ [tb, gl, gs, kb, gk] → d < w.heap.size ∧ d ∉ c0.bs ∧ d ∉ c1.bs ∧ d ∉ c2.bs := by
  obtain ⟨gl, cl, rfl, hgl⟩ := row_at h.ol (by simp [flatR, rtCells])
  obtain ⟨gs, cs, rfl, hgs⟩ := row_at h.os (by simp)
  obtain ⟨gk, ck, rfl, hgk⟩ := row_at h.ok (by simp [kidsOf])
  have hin : ∀ d, d ∈ [tb, gl, gs, kb, gk] → d ∈ dyn tb kb (.slice (some ⟨gl, 0, none⟩) 3 cl) (.slice (some ⟨gs, 0, none⟩) 3 cs) (.slice (some ⟨gk, 0, none⟩) 2 ck) := by
    intro d hd
    rw [mem_dyn]
    simp [Value.ownBlock] at hd ⊢
    rcases hd with rfl | rfl | rfl | rfl | rfl <;> simp
  refine ⟨gl, gs, gk, cl, cs, ck, rfl, fun i hi => hgl i (by simp; omega), ?_, fun d hd => ?_⟩
  · exact ⟨h.t0, h.t1, h.t2, hgs 0 (by simp), hgs 1 (by simp), hgs 2 (by simp), h.k0, h.kr 1 (by decide) (by decide), h.kr 2 (by decide) (by decide), hgk 0 (by decide), hgk 1 (by decide), hgl 17 (by simp), hgl 26 (by simp)⟩
  · have hq : ∀ p, p ∈ [(r0, c0), (r1, c1), (r2, c2)] → d ∉ p.2.bs := fun p hp hb => by
      have a := (h.hi p hp).2.2 d (hin d hd)
      have b := (h.off p hp).now.2.bs d hb
      omega
    exact ⟨h.low.1 d (hin d hd), hq (r0, c0) (by simp), hq (r1, c1) (by simp), hq (r2, c2) (by simp)⟩

theorem asks_of {w : World} {tb kb lo n m : Nat} {lv sv kv : Value} {pl ps : List (Rt × Rec)} {p : Rt × Rec} {ls : List Lab} (h : TrAt w tb kb lo n lv sv kv pl ps m) (hp : p ∈ pl) (hlo : 2 ≤ p.2.lo) (hg : ∀ m, m ∈ p.1.ms → m.Good) (hf : p.1.ms.length ≤ 16) (ha : ∀ m, m ∈ p.1.ms → HoldsG m (labGet ls m.n)) : Asks w p.2 p.1.ms ls :=
  ⟨(h.off p hp).now.1.2.2, (h.off p hp).now.2, (h.hi p hp).2.1, hlo, hg, hf, ha⟩

abbrev lsA : List Lab := [(nJob, bA), (nSev, bCrit)]

theorem lsA_ok : LabsOk lsA := by
  refine ⟨fun x hx => ?_, fun i x y h1 h2 => ?_⟩
  · simp only [lsA, List.mem_cons, List.not_mem_nil, or_false] at hx
    rcases hx with rfl | rfl
    · exact ⟨by decide, by decide, by decide, by decide, by decide⟩
    · exact ⟨by decide, by decide, by decide, by decide, by decide⟩
  · rcases i with _ | i
    · cases h1; cases h2
      exact ⟨by rw [Lib.toList_data, Lib.toList_data]; decide, by rw [Lib.toList_data, Lib.toList_data]; decide⟩
    · simp at h2

theorem good_c : (⟨1, nSev, bCrit⟩ : Mat).Good := ⟨⟨by decide, by decide, by decide, by decide, by decide, by decide⟩, rfl⟩
theorem good_j : (⟨1, nJob, bA⟩ : Mat).Good := ⟨⟨by decide, by decide, by decide, by decide, by decide, by decide⟩, rfl⟩

theorem tree_rs_ok : ∀ (i : Nat) (r : Rt), treeRs[i]? = some r → r.Ok i := by
  intro i r hr
  rcases i with _ | _ | _ | i
  · cases hr
    exact ⟨fun _ => ⟨rfl, rfl, rfl⟩, fun h => absurd h (by decide), by decide, by simp, by decide, by simp, by decide, by decide, by decide, by decide, by decide, by decide, by decide, by decide⟩
  · cases hr
    exact ⟨fun h => by omega, fun _ => rfl, by decide, fun x hx => by rw [List.mem_singleton.1 hx]; exact good_c, by decide, by simp, by decide, by decide, by decide, by decide, by decide, by decide, by decide, by decide⟩
  · cases hr
    exact ⟨fun h => by omega, fun _ => rfl, by decide, fun x hx => by rw [List.mem_singleton.1 hx]; exact good_j, by decide, fun n hn => by rw [List.mem_singleton.1 hn]; exact ⟨by decide, by decide⟩, by decide, by decide, by decide, by decide, by decide, by decide, by decide, by decide⟩
  · simp at hr

theorem get_sev : labGet lsA nSev = bCrit := by
  unfold labGet
  simp only [List.find?, Lib.toList_data]
  decide
theorem get_job : labGet lsA nJob = bA := by
  unfold labGet
  simp only [List.find?, Lib.toList_data]
  decide
theorem holds_c : ∀ m, m ∈ [(⟨1, nSev, bCrit⟩ : Mat)] → HoldsG m (labGet lsA m.n) := fun m hm => by
  rw [List.mem_singleton.1 hm]
  show mSays 1 bCrit (labGet lsA nSev) = true
  rw [get_sev]
  simp [mSays]
theorem holds_j : ∀ m, m ∈ [(⟨1, nJob, bA⟩ : Mat)] → HoldsG m (labGet lsA m.n) := fun m hm => by
  rw [List.mem_singleton.1 hm]
  show mSays 1 bA (labGet lsA nJob) = true
  rw [get_job]
  simp [mSays]

abbrev rs0 : Rt := ⟨-1, ⟨#[116, 101, 97, 109]⟩, [], [], 0, 1, 1, false⟩
abbrev rs1 : Rt := ⟨0, ⟨#[112, 97, 103, 101, 114]⟩, [⟨1, nSev, bCrit⟩], [], 0, 1, 1, true⟩
abbrev rs2 : Rt := ⟨0, ⟨#[119, 101, 98]⟩, [⟨1, nJob, bA⟩], [nJob], 0, 1, 1, false⟩

theorem told_tree (w : World) (tb kb lo lb lc : Nat) (lv sv kv : Value) (c0 c1 c2 : Rec) (hT : Lib.Utf8Tabs 0 1 w) (h2 : 2 ≤ lo) (h : TrAt w tb kb lo 3 lv sv kv [(rs0, c0), (rs1, c1), (rs2, c2)] [(rs0, c0), (rs1, c1), (rs2, c2)] 2) (hs : LabAt w lb 0 lsA) (hslt : lb < lo) (hlow : lo ≤ w.heap.size) :
    Calls Tryz.prog 11 #[.pointer (some ⟨tb, 0, none⟩), .int .i64 0, .slice (some ⟨lb, 0, none⟩) 2 lc] w (fun e w' => ∃ g cap, e = .returned (.slice (some ⟨g, 0, none⟩) 2 cap) ∧ g < w'.heap.size ∧ w'.cell? ⟨g, 0, none⟩ = some (.int .i64 1) ∧ w'.cell? ⟨g, 1, none⟩ = some (.int .i64 2) ∧ Below lo w w') := by
  obtain ⟨gl, gs, gk, cl, cs, ck, _, _, h3, hoff⟩ := tree_t3 h
  have q0 : lo ≤ c0.lo := h.base (rs0, c0) (by simp)
  have q1 : lo ≤ c1.lo := h.base (rs1, c1) (by simp)
  have q2 : lo ≤ c2.lo := h.base (rs2, c2) (by simp)
  have a0 := asks_of (ls := lsA) h (p := (rs0, c0)) (by simp) (by show 2 ≤ c0.lo; omega) (by simp) (by simp) (by simp)
  have a1 := asks_of (ls := lsA) h (p := (rs1, c1)) (by simp) (by show 2 ≤ c1.lo; omega) (fun m hm => by rw [List.mem_singleton.1 hm]; exact good_c) (by simp) holds_c
  have a2 := asks_of (ls := lsA) h (p := (rs2, c2)) (by simp) (by show 2 ≤ c2.lo; omega) (fun m hm => by rw [List.mem_singleton.1 hm]; exact good_j) (by simp) holds_j
  have hsep := h.sep
  simp only [List.pairwise_cons, List.mem_cons, List.not_mem_nil, or_false, forall_eq_or_imp, forall_eq] at hsep
  have hh0 := (h.hi (rs0, c0) (by simp)).1
  have hh1 := (h.hi (rs1, c1) (by simp)).1
  have s1 : c0.hi ≤ c1.lo := hsep.1.1
  have s2 : c1.hi ≤ c2.lo := hsep.2.1
  have s3 : c0.hi ≤ c2.lo := hsep.1.2
  simp only at hh0 hh1
  refine told_root w tb gl gs kb gk cl cs ck lb lc lo c0 c1 c2 _ _ _ lsA hT h3 a0 a1 a2 s1 s2 (fun d hd => ?_) hs (by decide) q0 (by omega) (by omega) s3
  by_cases he : d = lb
  · subst he
    have n0 : ∀ (c : Rec) (ms : List Mat), Asks w c ms lsA → lo ≤ c.lo → d ∉ c.bs := fun c ms ha hc hb => by
      have := ha.inn.bs d hb
      omega
    exact ⟨by omega, n0 _ _ a0 q0, n0 _ _ a1 q1, n0 _ _ a2 q2⟩
  · exact hoff d (by simp at hd ⊢; omega)

theorem tmatch_tree (w : World) (tb kb lo lb lc : Nat) (lv sv kv : Value) (c0 c1 c2 : Rec) (hT : Lib.Utf8Tabs 0 1 w) (h2 : 2 ≤ lo) (h : TrAt w tb kb lo 3 lv sv kv [(rs0, c0), (rs1, c1), (rs2, c2)] [(rs0, c0), (rs1, c1), (rs2, c2)] 2) (hs : LabAt w lb 0 lsA) (hslt : lb < lo) (hlow : lo ≤ w.heap.size) :
    Calls Tryz.prog 4 #[.pointer (some ⟨tb, 0, none⟩), .slice (some ⟨lb, 0, none⟩) 2 lc] w (fun e w' => ∃ g cap, e = .returned (.tuple #[.slice (some ⟨g, 0, none⟩) 2 cap, .int .i64 0]) ∧ g < w'.heap.size ∧ w'.cell? ⟨g, 0, none⟩ = some (.int .i64 1) ∧ w'.cell? ⟨g, 1, none⟩ = some (.int .i64 2) ∧ Below lo w w') := by
  have HC := Lib.hid (right_ok w lb 0 lc lsA hT hs (by omega) (by decide) lsA_ok.1 lsA_ok.2)
  have HT := Lib.hid hT
  have HH := Lib.hid h
  have HS := Lib.hid hs
  clear hT h hs
  go_enter Tryz.func4, Tryz.ntmps4
  go_wp2_with fail
  refine HC.out.mono ?_
  rintro e w1 ⟨rfl, hb1⟩
  have hz1 := hb1.size
  have HB1 := Lib.hid (hb1.mono hlow)
  have HC2 := Lib.hid (told_tree w1 tb kb lo lb lc lv sv kv c0 c1 c2 (Utf8Tabs_below HT.out hb1) h2 (HH.out.below hb1) (HS.out.below hb1 (by omega)) hslt (by omega))
  clear HC hb1
  go_wp2_with fail
  refine HC2.out.mono ?_
  rintro e w2 ⟨g, cap, rfl, hg, x0, x1, hb2⟩
  have HX := Lib.hid (And.intro hg (And.intro x0 (And.intro x1 hb2)))
  clear x0 x1 hb2 HC2
  go_wp2_with fail
  go_ret2
  exact ⟨g, cap, rfl, HX.out.1, HX.out.2.1, HX.out.2.2.1, HB1.out.trans HX.out.2.2.2⟩

/-- Match of the law's tree, asked for the law's labels. -/
theorem match_tree (w : World) (b c B lb lc : Nat) (hT : Lib.Utf8Tabs 0 1 w) (h2 : 2 ≤ w.heap.size) (hl : RtsAt w b 0 B treeRs) (hlt : b < w.heap.size) (hs : LabAt w lb 0 lsA) (hslt : lb < w.heap.size) :
    Calls Tryz.prog 18 #[.slice (some ⟨b, 0, none⟩) 3 c, .slice (some ⟨lb, 0, none⟩) 2 lc] w (fun e w' => ∃ g cap, e = .returned (.tuple #[.slice (some ⟨g, 0, none⟩) 2 cap, .int .i64 0]) ∧ g < w'.heap.size ∧ w'.cell? ⟨g, 0, none⟩ = some (.int .i64 1) ∧ w'.cell? ⟨g, 1, none⟩ = some (.int .i64 2) ∧ Below w.heap.size w w') := by
  have HN := Lib.hid (new_ok w b 0 c B treeRs hT h2 hl hlt (by decide) (by decide) tree_rs_ok)
  have HS := Lib.hid hs
  have HT := Lib.hid hT
  clear hT hl hs
  go_enter Tryz.func18, Tryz.ntmps18
  go_wp2_with fail
  refine HN.out.mono ?_
  rintro e w1 ⟨tb, kb, lv, sv, kv, cs, rfl, hb1, hcs, htb, htr⟩
  obtain ⟨c0, c1, c2, rfl⟩ : ∃ c0 c1 c2, cs = [c0, c1, c2] := by
    match cs, hcs with
    | [c0, c1, c2], _ => exact ⟨c0, c1, c2, rfl⟩
  have HB1 := Lib.hid hb1
  have HTR := Lib.hid htr
  have hz1 := hb1.size
  have HL1 := Lib.hid (HS.out.below hb1 hslt)
  clear HN hb1 htr hcs
  go_wp2_with fail
  refine (tmatch_tree w1 tb kb w.heap.size lb lc lv sv kv c0 c1 c2 (Utf8Tabs_below HT.out HB1.out) h2 HTR.out HL1.out hslt hz1).mono ?_
  rintro e w2 ⟨g, cap, rfl, hg, x0, x1, hb2⟩
  have HX := Lib.hid (And.intro hg (And.intro x0 (And.intro x1 hb2)))
  clear x0 x1 hb2
  go_wp2_with fail
  go_ret2
  exact ⟨g, cap, rfl, HX.out.1, HX.out.2.1, HX.out.2.2.1, HB1.out.trans HX.out.2.2.2⟩

end Go.Proofs.YteemciknbiloiaaGreatDoor.Ih
