/- Walks over layer 4: Print of one label; strings.Join of one text. -/
import Derived.Test.YteemciknbiloiaaGreatDoorRtB
import Derived.Test.YteemciknbiloiaaGreatDoorRtC
import Derived.RegionTactic
namespace Go.Proofs.YteemciknbiloiaaGreatDoor.Ih
open Go.RowKit

attribute [local go_sem] run_store_one

abbrev nJob : ByteArray := ⟨#[106, 111, 98]⟩
abbrev bA : ByteArray := ⟨#[97]⟩
abbrev bQA : ByteArray := ⟨#[34, 97, 34]⟩

theorem join_one (w : World) (g c : Nat) (s sep : ByteArray) (h : w.cell? ⟨g, 0, none⟩ = some (.string s)) :
    Calls Tryz.prog 29 #[.slice (some ⟨g, 0, none⟩) 1 c, .string sep] w (fun e w' => e = .returned (.string s) ∧ w' = w) := by
  go_enter Tryz.func29, Tryz.ntmps29
  go_wp2_with fail
  go_ret
  exact ⟨rfl, rfl⟩

theorem metric_any (w : World) (s : ByteArray) (hs : s.size ≤ 140737488355328) :
    Calls Tryz.prog 27 #[.string s] w (fun e w' => e = .returned (.bool (namedB s 256 true)) ∧ Below w.heap.size w w') := by
  go_enter Tryz.func27, Tryz.ntmps27
  go_wp2_with fail
  refine (named_any w s 256 true hs).mono ?_
  rintro e w1 ⟨rfl, hb⟩
  have HB := Lib.hid hb
  clear hb
  go_wp2_with fail
  go_ret
  exact ⟨rfl, HB.out⟩

theorem news_oneS (W : World) (t : TypeId) (a : Value) : ∀ (j : Nat) (u : Value), [a][j]? = some u → (W.alloc (.cells #[a] t)).cell? ((⟨W.heap.size, 0, none⟩ : Addr).add j) = some u := World.news_of_block (heap_alloc_new W _)

set_option maxRecDepth 100000 in
set_option maxHeartbeats 4000000 in
theorem print_a (w : World) (b off c : Nat) (hT : Lib.Utf8Tabs 0 1 w) (hl : LabAt w b off [(nJob, bA)]) (hlt : b < w.heap.size) (hok : LabsOk [(nJob, bA)]) :
    Calls Tryz.prog 13 #[.slice (some ⟨b, off, none⟩) 1 c] w (fun e w' => e = .returned (.tuple #[.string ⟨#[123, 106, 111, 98, 61, 34, 97, 34, 125]⟩, .int .i64 0]) ∧ Below w.heap.size w w') := by
  have HC : Hid (Calls Tryz.prog 24 #[.slice (some ⟨b, off, none⟩) 1 c] w (fun e w' => e = .returned (.int .i64 0) ∧ Below w.heap.size w w')) := lright_ok w b off c [(nJob, bA)] hT hl hlt (by decide) hok
  have HL := Lib.hid hl
  obtain ⟨i0, hi0, hz0, hz1, hz2⟩ := info_parts infoStr
  clear hT hl hok
  go_enter Tryz.func13, Tryz.ntmps13
  go_wp2_with fail
  refine HC.out.mono ?_
  rintro e w1 ⟨rfl, hb⟩
  have HB := Lib.hid hb
  have hz := hb.size
  have HL1 := Lib.hid (HL.out.below hb hlt)
  have HG : Hid (Calls Tryz.prog 26 #[.slice (some ⟨b, off, none⟩) 1 c, .string ⟨#[95, 95, 110, 97, 109, 101, 95, 95]⟩] w1 (fun e w' => e = .returned (.string ⟨#[]⟩) ∧ Below w1.heap.size w1 w')) := Lib.hid (by
    have h := get_any w1 b off c [(nJob, bA)] ⟨#[95, 95, 110, 97, 109, 101, 95, 95]⟩ HL1.out (by omega) (by decide)
    rw [show ((([(nJob, bA)] : List Lab).find? (fun x => x.1.toList == (⟨#[95, 95, 110, 97, 109, 101, 95, 95]⟩ : ByteArray).toList)).map (·.2)).getD ⟨#[]⟩ = ⟨#[]⟩ from by
      rw [Lib.toList_data]
      simp [Lib.toList_data]] at h
    exact h)
  clear hb HC HL
  go_wp2_with fail
  refine HG.out.mono ?_
  rintro e w2 ⟨rfl, hb⟩
  have HB2 := Lib.hid (HB.out.trans (hb.mono hz))
  have HL2 := Lib.hid (HL1.out.below hb (by omega))
  have hz2' := hb.size
  clear hb HG HB HL1
  go_wp2_with fail
  refine (metric_any w2 ⟨#[]⟩ (by decide)).mono ?_
  rw [show namedB ⟨#[]⟩ 256 true = false from rfl]
  rintro e w3 ⟨rfl, hb⟩
  have HB3 := Lib.hid (HB2.out.trans (hb.mono (by omega)))
  have HL3 := Lib.hid (HL2.out.below hb (by omega))
  have hz3 := hb.size
  have c1 := (HL3.out 0 _ rfl).1
  have c2 := (HL3.out 0 _ rfl).2
  simp only [Nat.zero_mul, Nat.add_zero] at c1 c2
  clear hb HB2 HL2 HL3
  go_wp2_with fail
  refine wp_loop_rounds 2 ?_
  rw [rounds_succ]
  have hbn : ¬ b = w3.heap.size := by omega
  have hW : Hid (∀ W, W = (w3.alloc (.cells #[.string nJob, .string bA] 56)).drew → Below w.heap.size w W ∧ W.heap.size = w3.heap.size + 1 ∧ W.cell? ⟨w3.heap.size, 0, none⟩ = some (.string nJob) ∧ W.cell? ⟨w3.heap.size, 1, none⟩ = some (.string bA)) := by
    rintro W rfl
    exact ⟨(HB3.out.alloc (by omega) _).drew, by simp, by simp, by simp⟩
  go_wp2_with fail
  refine wp_region_any (by kernel_rfl) ?_
  change wpAny _ _ _ _ _ _ _ (World.drew _)
  generalize hWe : (w3.alloc (.cells #[.string nJob, .string bA] 56)).drew = W
  obtain ⟨hbW, hszW, d1, d2⟩ := hW.out W hWe.symm
  have HBW := Lib.hid hbW
  have hwW := hbW.size
  clear hW hWe hbW c1 c2
  refine wpAny_take (i := 0) (v := .slice none 0 0) rfl (by kernel_rfl) (by kernel_rfl) (by kernel_rfl) (fun _ _ _ h => h) (Or.inl ⟨by rfl, by intro w; go_simp⟩) ?_
  refine wpAny_take (i := 1) (v := .pointer (some ⟨w3.heap.size, 0, none⟩)) rfl (by kernel_rfl) (by kernel_rfl) (by kernel_rfl) (fun _ _ _ h => h) (Or.inl ⟨by rfl, by intro w; go_simp⟩) ?_
  refine wpAny_take (i := 4) (v := .pointer (some ⟨w3.heap.size, 1, none⟩)) rfl (by kernel_rfl) (by kernel_rfl) (by kernel_rfl) (fun _ _ _ h => h) (Or.inl ⟨by rfl, by intro w; go_simp⟩) ?_
  refine wpAny_ready (rs := [2, 5]) (by kernel_rfl) (by simp) ?_
  refine AllReady.cons rfl (fun Kk hKk => ?_) (AllReady.cons rfl (fun Kk hKk => ?_) AllReady.nil)
  · skip
    skip
    go_simp
    refine hKk _ _ ?_
    clear hKk Kk
    refine wpAny_take (i := 3) (v := .string (nJob ++ ⟨#[61]⟩)) rfl (by kernel_rfl) (by kernel_rfl) (by kernel_rfl) (fun _ _ _ h => h) (Or.inl ⟨by rfl, by intro w; go_simp⟩) ?_
    refine wpAny_ready (rs := [5]) (by kernel_rfl) (by simp) ?_
    refine AllReady.cons rfl (fun Kk hKk => ?_) AllReady.nil
    skip
    go_simp
    refine hKk _ _ ?_
    clear hKk Kk
    refine wpAny_ready (rs := [6]) (by kernel_rfl) (by simp) ?_
    refine AllReady.cons rfl (fun Kk hKk => ?_) AllReady.nil
    skip
    go_simp
    refine (quoted_a _).mono ?_
    rintro e w4 ⟨rfl, hb4⟩
    have HB4 := Lib.hid (HBW.out.trans (hb4.mono hwW))
    have x1 := (hb4.cell (p := ⟨w3.heap.size, 0, none⟩) (by show w3.heap.size < W.heap.size; omega)).trans d1
    have hz4 := hb4.size
    clear hb4
    refine hKk _ _ ?_
    clear hKk Kk
    refine wpAny_ready (rs := [7]) (by kernel_rfl) (by simp) ?_
    refine AllReady.cons rfl (fun Kk hKk => ?_) AllReady.nil
    skip
    go_simp
    refine hKk _ _ ?_
    clear hKk Kk
    refine wpAny_ready (rs := [8]) (by kernel_rfl) (by simp) ?_
    refine AllReady.cons rfl (fun Kk hKk => ?_) AllReady.nil
    skip
    go_simp
    refine hKk _ _ ?_
    clear hKk Kk
    refine wpAny_ready (rs := [9]) (by kernel_rfl) (by simp) ?_
    refine AllReady.cons rfl (fun Kk hKk => ?_) AllReady.nil
    refine step_append_lies _ (by rfl) _ _ _ (by rfl) w.heap.size 9 i0 _ 1 16 Tryz.underlying31 hi0 hz0 hz1 hz2 rfl (by omega) (.slice none 0 0) 0 [] (by rfl) (World.ownsRow_nil _ _ _ _) ⟨w4.heap.size, 0, none⟩ 1 1 [.string (nJob ++ ⟨#[61]⟩ ++ bQA)] (by rfl) (by rfl) (news_oneS w4 _ _) (by intro u hu; rw [List.mem_singleton.1 hu]; rfl) (by omega) (by unfold maxLen; omega) (by omega) (by simp; omega) (w4.heap.size + 1) (by simp) ?_
    intro g1 cap1 w5 hown hgrow hat hgl
    have HB5 := Lib.hid ((HB4.out.alloc (by omega) _).grown hgrow (by simp; omega) (fun k hk => by cases hk))
    have y0 : w5.cell? ⟨g1, 0, none⟩ = some (.string (nJob ++ ⟨#[61]⟩ ++ bQA)) := by rw [hown.cellAt 0 (by omega)]; rfl
    clear hown hgrow hat hgl
    refine hKk _ _ ?_
    clear hKk Kk
    refine wpAny_ready (rs := [10]) (by kernel_rfl) (by simp) ?_
    refine AllReady.cons rfl (fun Kk hKk => ?_) AllReady.nil
    skip
    go_simp
    refine hKk _ _ ?_
    clear hKk Kk
    refine wpAny_done (by kernel_rfl) ?_ _
    go_wp2_with fail
    rw [rounds_succ]
    go_wp2_with fail
    refine (join_one w5 g1 cap1 _ ⟨#[44]⟩ y0).mono ?_
    rintro e w6 ⟨rfl, rfl⟩
    go_wp2_with fail
    go_ret2
    exact ⟨rfl, HB5.out⟩
  · skip
    skip
    go_simp
    refine hKk _ _ ?_
    clear hKk Kk
    refine wpAny_ready (rs := [2, 6]) (by kernel_rfl) (by simp) ?_
    refine AllReady.cons rfl (fun Kk hKk => ?_) (AllReady.cons rfl (fun Kk hKk => ?_) AllReady.nil)
    · skip
      skip
      go_simp
      refine hKk _ _ ?_
      clear hKk Kk
      refine wpAny_take (i := 3) (v := .string (nJob ++ ⟨#[61]⟩)) rfl (by kernel_rfl) (by kernel_rfl) (by kernel_rfl) (fun _ _ _ h => h) (Or.inl ⟨by rfl, by intro w; go_simp⟩) ?_
      refine wpAny_ready (rs := [6]) (by kernel_rfl) (by simp) ?_
      refine AllReady.cons rfl (fun Kk hKk => ?_) AllReady.nil
      skip
      go_simp
      refine (quoted_a _).mono ?_
      rintro e w4 ⟨rfl, hb4⟩
      have HB4 := Lib.hid (HBW.out.trans (hb4.mono hwW))
      have x1 := (hb4.cell (p := ⟨w3.heap.size, 0, none⟩) (by show w3.heap.size < W.heap.size; omega)).trans d1
      have hz4 := hb4.size
      clear hb4
      refine hKk _ _ ?_
      clear hKk Kk
      refine wpAny_ready (rs := [7]) (by kernel_rfl) (by simp) ?_
      refine AllReady.cons rfl (fun Kk hKk => ?_) AllReady.nil
      skip
      go_simp
      refine hKk _ _ ?_
      clear hKk Kk
      refine wpAny_ready (rs := [8]) (by kernel_rfl) (by simp) ?_
      refine AllReady.cons rfl (fun Kk hKk => ?_) AllReady.nil
      skip
      go_simp
      refine hKk _ _ ?_
      clear hKk Kk
      refine wpAny_ready (rs := [9]) (by kernel_rfl) (by simp) ?_
      refine AllReady.cons rfl (fun Kk hKk => ?_) AllReady.nil
      refine step_append_lies _ (by rfl) _ _ _ (by rfl) w.heap.size 9 i0 _ 1 16 Tryz.underlying31 hi0 hz0 hz1 hz2 rfl (by omega) (.slice none 0 0) 0 [] (by rfl) (World.ownsRow_nil _ _ _ _) ⟨w4.heap.size, 0, none⟩ 1 1 [.string (nJob ++ ⟨#[61]⟩ ++ bQA)] (by rfl) (by rfl) (news_oneS w4 _ _) (by intro u hu; rw [List.mem_singleton.1 hu]; rfl) (by omega) (by unfold maxLen; omega) (by omega) (by simp; omega) (w4.heap.size + 1) (by simp) ?_
      intro g1 cap1 w5 hown hgrow hat hgl
      have HB5 := Lib.hid ((HB4.out.alloc (by omega) _).grown hgrow (by simp; omega) (fun k hk => by cases hk))
      have y0 : w5.cell? ⟨g1, 0, none⟩ = some (.string (nJob ++ ⟨#[61]⟩ ++ bQA)) := by rw [hown.cellAt 0 (by omega)]; rfl
      clear hown hgrow hat hgl
      refine hKk _ _ ?_
      clear hKk Kk
      refine wpAny_ready (rs := [10]) (by kernel_rfl) (by simp) ?_
      refine AllReady.cons rfl (fun Kk hKk => ?_) AllReady.nil
      skip
      go_simp
      refine hKk _ _ ?_
      clear hKk Kk
      refine wpAny_done (by kernel_rfl) ?_ _
      go_wp2_with fail
      rw [rounds_succ]
      go_wp2_with fail
      refine (join_one w5 g1 cap1 _ ⟨#[44]⟩ y0).mono ?_
      rintro e w6 ⟨rfl, rfl⟩
      go_wp2_with fail
      go_ret2
      exact ⟨rfl, HB5.out⟩
    · skip
      skip
      go_simp
      refine (quoted_a _).mono ?_
      rintro e w4 ⟨rfl, hb4⟩
      have HB4 := Lib.hid (HBW.out.trans (hb4.mono hwW))
      have x1 := (hb4.cell (p := ⟨w3.heap.size, 0, none⟩) (by show w3.heap.size < W.heap.size; omega)).trans d1
      have hz4 := hb4.size
      clear hb4
      refine hKk _ _ ?_
      clear hKk Kk
      refine wpAny_ready (rs := [2]) (by kernel_rfl) (by simp) ?_
      refine AllReady.cons rfl (fun Kk hKk => ?_) AllReady.nil
      skip
      go_simp
      refine hKk _ _ ?_
      clear hKk Kk
      refine wpAny_take (i := 3) (v := .string (nJob ++ ⟨#[61]⟩)) rfl (by kernel_rfl) (by kernel_rfl) (by kernel_rfl) (fun _ _ _ h => h) (Or.inl ⟨by rfl, by intro w; go_simp⟩) ?_
      refine wpAny_ready (rs := [7]) (by kernel_rfl) (by simp) ?_
      refine AllReady.cons rfl (fun Kk hKk => ?_) AllReady.nil
      skip
      go_simp
      refine hKk _ _ ?_
      clear hKk Kk
      refine wpAny_ready (rs := [8]) (by kernel_rfl) (by simp) ?_
      refine AllReady.cons rfl (fun Kk hKk => ?_) AllReady.nil
      skip
      go_simp
      refine hKk _ _ ?_
      clear hKk Kk
      refine wpAny_ready (rs := [9]) (by kernel_rfl) (by simp) ?_
      refine AllReady.cons rfl (fun Kk hKk => ?_) AllReady.nil
      refine step_append_lies _ (by rfl) _ _ _ (by rfl) w.heap.size 9 i0 _ 1 16 Tryz.underlying31 hi0 hz0 hz1 hz2 rfl (by omega) (.slice none 0 0) 0 [] (by rfl) (World.ownsRow_nil _ _ _ _) ⟨w4.heap.size, 0, none⟩ 1 1 [.string (nJob ++ ⟨#[61]⟩ ++ bQA)] (by rfl) (by rfl) (news_oneS w4 _ _) (by intro u hu; rw [List.mem_singleton.1 hu]; rfl) (by omega) (by unfold maxLen; omega) (by omega) (by simp; omega) (w4.heap.size + 1) (by simp) ?_
      intro g1 cap1 w5 hown hgrow hat hgl
      have HB5 := Lib.hid ((HB4.out.alloc (by omega) _).grown hgrow (by simp; omega) (fun k hk => by cases hk))
      have y0 : w5.cell? ⟨g1, 0, none⟩ = some (.string (nJob ++ ⟨#[61]⟩ ++ bQA)) := by rw [hown.cellAt 0 (by omega)]; rfl
      clear hown hgrow hat hgl
      refine hKk _ _ ?_
      clear hKk Kk
      refine wpAny_ready (rs := [10]) (by kernel_rfl) (by simp) ?_
      refine AllReady.cons rfl (fun Kk hKk => ?_) AllReady.nil
      skip
      go_simp
      refine hKk _ _ ?_
      clear hKk Kk
      refine wpAny_done (by kernel_rfl) ?_ _
      go_wp2_with fail
      rw [rounds_succ]
      go_wp2_with fail
      refine (join_one w5 g1 cap1 _ ⟨#[44]⟩ y0).mono ?_
      rintro e w6 ⟨rfl, rfl⟩
      go_wp2_with fail
      go_ret2
      exact ⟨rfl, HB5.out⟩

end Go.Proofs.YteemciknbiloiaaGreatDoor.Ih
