/- Walks over layer 6's reader: blanks, next, want, where no blank stands. -/
import Derived.Test.YtgcmjidphoklkaaGreatDoorIhP2
import Derived.Test.YtgcmjidphoklkaaGreatDoorIhP1
import Derived.StillTailTactics
import Derived.Test.YtgcmjidphoklkaaGreatDoorRxQb
namespace Go.Proofs.YtgcmjidphoklkaaGreatDoor.Ih
open Go.RowKit

/-- A reader in memory. -/
structure RdAt (w : World) (b : Nat) (s : ByteArray) (i : Nat) : Prop where
  lt : b < w.heap.size
  c0 : w.cell? ⟨b, 0, none⟩ = some (.string s)
  c1 : w.cell? ⟨b, 1, none⟩ = some (.int .i64 i)
  fz : ∀ k, w.frozen? ⟨b, k, none⟩ = false

theorem RdAt.like {w w' : World} {b : Nat} {s : ByteArray} {i : Nat} (h : RdAt w b s i) (hb : w'.heap[b]? = w.heap[b]?) (hs : w.heap.size ≤ w'.heap.size) : RdAt w' b s i := by
  have e : ∀ k, w'.cell? ⟨b, k, none⟩ = w.cell? ⟨b, k, none⟩ := fun k => World.cell?_of_block (w := w) (a := ⟨b, k, none⟩) hb
  exact ⟨Nat.lt_of_lt_of_le h.lt hs, (e 0).trans h.c0, (e 1).trans h.c1, fun k => (World.frozen?_of_block (w := w) (a := ⟨b, k, none⟩) hb).trans (h.fz k)⟩
theorem RdAt.below {w w' : World} {b : Nat} {s : ByteArray} {i : Nat} (h : RdAt w b s i) (hb : Below w.heap.size w w') : RdAt w' b s i := h.like (hb.block b h.lt) hb.size
theorem RdAt.set {w : World} {b : Nat} {s : ByteArray} {i : Nat} (h : RdAt w b s i) (j : Nat) : RdAt (w.setCell ⟨b, 1, none⟩ (.int .i64 j)) b s j :=
  ⟨by simpa [World.setCell] using h.lt, other h.c0 (by decide), World.cell?_setCell_same _ _ _ h.c1, fun k => by simpa using h.fz k⟩
theorem RdAt.drewN {w : World} {b : Nat} {s : ByteArray} {i : Nat} (h : RdAt w b s i) (n : Nat) : RdAt (w.drewN n) b s i := h.like rfl (Nat.le_refl _)
theorem But.drewN {b : Nat} {w w' : World} (h : But b w w') (n : Nat) : But b w (w'.drewN n) := ⟨h.os, h.tape, h.output, h.size, h.block⟩

/-- No blank stands at place i. -/
def NoBlank (s : ByteArray) (i : Nat) : Prop := i < s.size → (s.get! i).toNat ≠ 32 ∧ (s.get! i).toNat ≠ 9

set_option maxRecDepth 100000 in
set_option maxHeartbeats 1000000 in
theorem blanks_none (w : World) (b : Nat) (s : ByteArray) (i : Nat) (h : RdAt w b s i) (hn : NoBlank s i) :
    Calls Tryz.prog 65 #[.pointer (some ⟨b, 0, none⟩)] w (fun e w' => e = .returned (.tuple #[]) ∧ ∃ n, w' = w.drewN n) := by
  obtain ⟨_, c0, c1, _⟩ := h
  go_enter Tryz.func65, Tryz.ntmps65
  go_wp2_with fail
  refine wp_loop_rounds 1 ?_
  rw [rounds_succ]
  by_cases hi : i < s.size
  · obtain ⟨h1, h2⟩ := hn hi
    have hg : s[i]'hi = s.get! i := (Utf8W.get!_of_lt s i hi).symm
    obtain ⟨x, hx⟩ : ∃ x, s.get! i = x := ⟨_, rfl⟩
    rw [hx] at hg h1 h2
    obtain ⟨c, hc⟩ : ∃ c : Int, (x.toNat : Int) = c := ⟨_, rfl⟩
    have e1 : (c == 32) = false := by rw [← hc]; simpa using (by omega : ¬ (x.toNat : Int) = 32)
    have e2 : (c == 9) = false := by rw [← hc]; simpa using (by omega : ¬ (x.toNat : Int) = 9)
    have hil : (i : Int) < (s.size : Int) := by omega
    have hi0 : (0 : Int) ≤ (i : Int) := by omega
    clear hn h1 h2 hx
    go_wp2_with fail
    go_quiet (fail)
    go_wp2_with fail
    go_end0
    exact ⟨rfl, _, rfl⟩
  · have hd : decide ((i : Int) < (s.size : Int)) = false := by simpa using hi
    clear hn
    go_wp2_with fail
    go_quiet (fail)
    go_wp2_with fail
    go_end0
    exact ⟨rfl, _, rfl⟩

theorem next_end {w : World} {b : Nat} {s : ByteArray} {i : Nat} (h : RdAt w b s i) (n : Nat) (_hi : i < s.size) : But b w ((w.drewN n).setCell ⟨b, 1, none⟩ (.int .i64 ((i : Int) + 1))) ∧ RdAt ((w.drewN n).setCell ⟨b, 1, none⟩ (.int .i64 ((i : Int) + 1))) b s (i + 1) :=
  ⟨((But.refl b w).drewN n).set 1 _, by have := (h.drewN n).set (i + 1); rwa [show ((i + 1 : Nat) : Int) = (i : Int) + 1 from rfl] at this⟩

set_option maxRecDepth 100000 in
set_option maxHeartbeats 1000000 in
theorem next_yes (w : World) (b : Nat) (s : ByteArray) (i : Nat) (c : Int) (hs : s.size ≤ 65536) (h : RdAt w b s i) (hn : NoBlank s i) (hi : i < s.size) (hc : ((s.get! i).toNat : Int) = c) :
    Calls Tryz.prog 61 #[.pointer (some ⟨b, 0, none⟩), .int .u8 c] w (fun e w' => e = .returned (.bool true) ∧ But b w w' ∧ RdAt w' b s (i + 1)) := by
  have H := Lib.hid h
  have HN := Lib.hid hn
  have hg : s[i]'hi = s.get! i := (Utf8W.get!_of_lt s i hi).symm
  obtain ⟨x, hx⟩ : ∃ x, s.get! i = x := ⟨_, rfl⟩
  rw [hx] at hg hc
  have hil : (i : Int) < (s.size : Int) := by omega
  have hi0 : (0 : Int) ≤ (i : Int) := by omega
  have hge : decide (s.size ≤ i) = false := by simpa using hi
  have hw1 : IntKind.i64.wrap ((i : Int) + 1) = (i : Int) + 1 := by rw [IntKind.wrap_i64] <;> omega
  clear h hn hx
  go_enter Tryz.func61, Tryz.ntmps61
  go_wp2_with fail
  refine (blanks_none w b s i H.out HN.out).mono ?_
  rintro e w1 ⟨rfl, m, rfl⟩
  have c0 := H.out.c0
  have c1 := H.out.c1
  have f1 := H.out.fz 1
  go_wp2_with fail
  go_quiet (fail)
  have HF := Lib.hid (next_end H.out (m + nq) hi)
  go_wp2_with fail
  go_ret
  exact ⟨rfl, HF.out⟩

set_option maxRecDepth 100000 in
set_option maxHeartbeats 1000000 in
theorem next_no (w : World) (b : Nat) (s : ByteArray) (i : Nat) (c : Int) (h : RdAt w b s i) (hn : NoBlank s i) (hc : i < s.size → ((s.get! i).toNat : Int) ≠ c) :
    Calls Tryz.prog 61 #[.pointer (some ⟨b, 0, none⟩), .int .u8 c] w (fun e w' => e = .returned (.bool false) ∧ ∃ n, w' = w.drewN n) := by
  have c0 := h.c0
  have c1 := h.c1
  have HC := Lib.hid (blanks_none w b s i h hn)
  have HN := Lib.hid hc
  clear h hn hc
  by_cases hi : i < s.size
  · have hc := HN.out hi
    have hg : s[i]'hi = s.get! i := (Utf8W.get!_of_lt s i hi).symm
    obtain ⟨x, hx⟩ : ∃ x, s.get! i = x := ⟨_, rfl⟩
    rw [hx] at hg hc
    obtain ⟨y, hy⟩ : ∃ y : Int, (x.toNat : Int) = y := ⟨_, rfl⟩
    have hil : (i : Int) < (s.size : Int) := by omega
    have hi0 : (0 : Int) ≤ (i : Int) := by omega
    have hge : decide (s.size ≤ i) = false := by simpa using hi
    have hne : (y == c) = false := beq_eq_false_iff_ne.2 (by rw [← hy]; exact hc)
    clear hx HN hc
    go_enter Tryz.func61, Tryz.ntmps61
    go_wp2_with fail
    refine HC.out.mono ?_
    rintro e w1 ⟨rfl, m, rfl⟩
    go_wp2_with fail
    go_quiet (fail)
    go_wp2_with fail
    go_ret
    exact ⟨rfl, m + nq, by simp⟩
  · have hge : decide (s.size ≤ i) = true := by simp; omega
    clear HN
    go_enter Tryz.func61, Tryz.ntmps61
    go_wp2_with fail
    refine HC.out.mono ?_
    rintro e w1 ⟨rfl, m, rfl⟩
    go_wp2_with fail
    go_quiet (fail)
    go_wp2_with fail
    go_ret
    exact ⟨rfl, m + nq, by simp⟩

theorem want_ok (w : World) (b : Nat) (s : ByteArray) (i : Nat) (c : Int) (hs : s.size ≤ 65536) (h : RdAt w b s i) (hn : NoBlank s i) (hi : i < s.size) (hc : ((s.get! i).toNat : Int) = c) :
    Calls Tryz.prog 60 #[.pointer (some ⟨b, 0, none⟩), .int .u8 c] w (fun e w' => e = .returned (.tuple #[]) ∧ But b w w' ∧ RdAt w' b s (i + 1)) := by
  have HC := Lib.hid (next_yes w b s i c hs h hn hi hc)
  clear h hn hc
  go_enter Tryz.func60, Tryz.ntmps60
  go_wp2_with fail
  refine HC.out.mono ?_
  rintro e w1 ⟨rfl, h1⟩
  have H1 := Lib.hid h1
  clear h1
  go_wp2_with fail
  go_end0
  exact ⟨rfl, H1.out⟩

end Go.Proofs.YtgcmjidphoklkaaGreatDoor.Ih

/- Walks over layer 6's reader: a name. -/
namespace Go.Proofs.YtgcmjidphoklkaaGreatDoor.Ih
open Go.RowKit

def insideB (c : Int) : Bool := (decide (97 ≤ c) && decide (c ≤ 122)) || (decide (65 ≤ c) && decide (c ≤ 90)) || (decide (48 ≤ c) && decide (c ≤ 57)) || c == 95

theorem inside_any (w : World) (c : Int) : Calls Tryz.prog 78 #[.int .u8 c] w (fun e w' => e = .returned (.bool (insideB c)) ∧ w' = w) := by
  go_enter Tryz.func78, Tryz.ntmps78
  go_wp2_with fail
  all_goals
    go_ret
    refine ⟨?_, rfl⟩
    refine congrArg Ending.returned (congrArg Value.bool ?_)
    rw [Bool.eq_iff_iff]
    simp [insideB]
    try omega

set_option maxRecDepth 100000 in
set_option maxHeartbeats 2000000 in
theorem name_ok (w : World) (b : Nat) (s : ByteArray) (i j : Nat) (hs : s.size ≤ 65536) (h : RdAt w b s i) (hn : NoBlank s i) (hij : i ≤ j) (hj : j < s.size) (hin : ∀ k, i ≤ k → k < j → insideB (s.get! k).toNat = true) (hout : insideB (s.get! j).toNat = false)
    (hnm : namedB (s.extract i j) 64 false = true) :
    Calls Tryz.prog 62 #[.pointer (some ⟨b, 0, none⟩)] w (fun e w' => e = .returned (.string (s.extract i j)) ∧ But b w w' ∧ RdAt w' b s j) := by
  have H := Lib.hid h
  have HIN := Lib.hid hin
  have HOUT := Lib.hid hout
  have HNM := Lib.hid hnm
  have HC := Lib.hid (blanks_none w b s i h hn)
  have c0 := h.c0
  have c1 := h.c1
  clear h hn hin hout hnm
  go_enter Tryz.func62, Tryz.ntmps62
  go_wp2_with fail
  refine HC.out.mono ?_
  rintro e w1 ⟨rfl, m, rfl⟩
  clear HC
  have H1 := Lib.hid (H.out.drewN m)
  have HB1 := Lib.hid ((But.refl b w).drewN m)
  go_wp2_with fail
  generalize w.drewN m = W at *
  clear c0 c1 H
  go_loopg [] (j - i) (fun g wr => ∃ k, i ≤ k ∧ k + g = j ∧ But b w wr ∧ RdAt wr b s k)
  case atStart => exact ⟨i, Nat.le_refl _, by omega, HB1.out, H1.out⟩
  case round =>
    obtain ⟨k, hik, hkg, hb, hr⟩ := hrel
    have HB := Lib.hid hb
    have HR := Lib.hid hr
    have c0 := hr.c0
    have c1 := hr.c1
    have f1 := hr.fz 1
    clear hb hr
    have hks : k < s.size := by omega
    have hg : s[k]'hks = s.get! k := (Utf8W.get!_of_lt s k hks).symm
    obtain ⟨x, hx⟩ : ∃ x, s.get! k = x := ⟨_, rfl⟩
    have HX := Lib.hid hx
    rw [hx] at hg
    obtain ⟨y, hy⟩ : ∃ y : Int, (x.toNat : Int) = y := ⟨_, rfl⟩
    have HY := Lib.hid hy
    have hil : (k : Int) < (s.size : Int) := by omega
    have hi0 : (0 : Int) ≤ (k : Int) := by omega
    clear hx
    by_cases hkj : k < j
    · have hy1 : insideB y = true := by rw [← HY.out, ← HX.out]; exact HIN.out k hik hkj
      have hw1 : IntKind.i64.wrap ((k : Int) + 1) = (k : Int) + 1 := by rw [IntKind.wrap_i64] <;> omega
      have HCI : Hid (∀ w, Calls Tryz.prog 78 #[.int .u8 y] w (fun e w' => e = .returned (.bool true) ∧ w' = w)) := fun w => by have := inside_any w y; rwa [hy1] at this
      clear hy1
      go_wp2_with fail
      go_quiet ((go_at_call 78; exact Calls.quiet_of_same (HCI.out _)))
      have HF := Lib.hid (next_end HR.out nq hks)
      go_wp2_with fail
      go_roundg (gk - 1)
      case measure => omega
      case rel => exact ⟨k + 1, by omega, by omega, HB.out.trans HF.out.1, HF.out.2⟩
    · obtain rfl : k = j := by omega
      have hy1 : insideB y = false := by rw [← HY.out, ← HX.out]; exact HOUT.out
      have HCI : Hid (∀ w, Calls Tryz.prog 78 #[.int .u8 y] w (fun e w' => e = .returned (.bool false) ∧ w' = w)) := fun w => by have := inside_any w y; rwa [hy1] at this
      have hik0 : ¬ (k : Int) < (i : Int) := by omega
      have hks2 : k ≤ s.size := by omega
      clear hy1
      go_wp2_with fail
      go_quiet ((go_at_call 78; exact Calls.quiet_of_same (HCI.out _)))
      obtain ⟨n1, rfl⟩ : ∃ n1, n1 = nq := ⟨_, rfl⟩
      go_wp2_with fail
      go_quiet (fail)
      go_wp2_with fail
      refine (name_any _ (s.extract i k) (by rw [ByteArray.size_extract]; omega)).mono ?_
      rintro e w2 ⟨rfl, hb2⟩
      rw [HNM.out]
      have HB3 := Lib.hid ((HB.out.drewN (n1 + nq)).trans (.of hb2))
      have HR3 := Lib.hid ((HR.out.drewN (n1 + nq)).below hb2)
      clear hb2
      go_wp2_with fail
      go_ret
      exact ⟨rfl, HB3.out, HR3.out⟩

end Go.Proofs.YtgcmjidphoklkaaGreatDoor.Ih

/- Walks over layer 6's reader: an operator. -/
namespace Go.Proofs.YtgcmjidphoklkaaGreatDoor.Ih
open Go.RowKit

set_option maxRecDepth 100000 in
theorem sign_2 (w : World) : Calls Tryz.prog 80 #[.int .i64 2] w (fun e w' => e = .returned (.string ⟨#[33, 61]⟩) ∧ w' = w) := by
  have i0 : ∀ w, (Instr.index 151 (.agg #[.string ⟨#[]⟩, .string ⟨#[61]⟩, .string ⟨#[33, 61]⟩, .string ⟨#[61, 126]⟩, .string ⟨#[33, 126]⟩]) (.int .i64 2)).run Tryz.prog w = .ok (.string ⟨#[33, 61]⟩) w := fun _ => by kernel_rfl
  go_enter Tryz.func80, Tryz.ntmps80
  go_wp2_with fail
  go_ret
  exact ⟨rfl, rfl⟩

set_option maxRecDepth 100000 in
theorem sign_3 (w : World) : Calls Tryz.prog 80 #[.int .i64 3] w (fun e w' => e = .returned (.string ⟨#[61, 126]⟩) ∧ w' = w) := by
  have i0 : ∀ w, (Instr.index 151 (.agg #[.string ⟨#[]⟩, .string ⟨#[61]⟩, .string ⟨#[33, 61]⟩, .string ⟨#[61, 126]⟩, .string ⟨#[33, 126]⟩]) (.int .i64 3)).run Tryz.prog w = .ok (.string ⟨#[61, 126]⟩) w := fun _ => by kernel_rfl
  go_enter Tryz.func80, Tryz.ntmps80
  go_wp2_with fail
  go_ret
  exact ⟨rfl, rfl⟩

theorem op_end {w : World} {b : Nat} {s : ByteArray} {i : Nat} (h : RdAt w b s i) : RdAt (w.setCell ⟨b, 1, none⟩ (.int .i64 ((i : Int) + 2))) b s (i + 2) := by
  have := h.set (i + 2); rwa [show ((i + 2 : Nat) : Int) = (i : Int) + 2 from rfl] at this

set_option maxRecDepth 100000 in
set_option maxHeartbeats 2000000 in
theorem op_ne (w : World) (b : Nat) (s : ByteArray) (i : Nat) (hs : s.size ≤ 65536) (h : RdAt w b s i) (hn : NoBlank s i) (hi : i + 2 ≤ s.size) (hp : Lib.hasPrefix (s.extract i s.size).data.toList [33, 61] = true) :
    Calls Tryz.prog 63 #[.pointer (some ⟨b, 0, none⟩)] w (fun e w' => e = .returned (.int .i64 2) ∧ But b w w' ∧ RdAt w' b s (i + 2)) := by
  have H := Lib.hid h
  have c0 := h.c0
  have c1 := h.c1
  have HC := Lib.hid (blanks_none w b s i h hn)
  have HP : Hid (∀ w, Calls Tryz.prog 79 #[.string (s.extract i s.size), .string ⟨#[33, 61]⟩] w (fun e w' => e = .returned (.bool true) ∧ w' = w)) := fun w => by
    have := Tryz.strings_HasPrefix (s.extract i s.size) ⟨#[33, 61]⟩ w
    rw [show (⟨#[33, 61]⟩ : ByteArray).data.toList = [33, 61] from rfl, hp] at this
    exact this
  have hlt := h.lt
  clear hp hn
  have hi0 : (0 : Int) ≤ (i : Int) := by omega
  have hi1 : ¬ (s.size : Int) < (i : Int) := by omega
  have hi2 : i ≤ s.size := by omega
  have hw1 : IntKind.i64.wrap ((i : Int) + 2) = (i : Int) + 2 := by rw [IntKind.wrap_i64] <;> omega
  clear h
  go_enter Tryz.func63, Tryz.ntmps63
  go_wp2_with fail
  refine HC.out.mono ?_
  rintro e w1 ⟨rfl, m, rfl⟩
  clear HC
  have H1 := Lib.hid ((H.out.drewN m))
  have HB1 := Lib.hid ((But.refl b w).drewN m)
  generalize w.drewN m = W at *
  clear c0 c1 H
  go_wp2_with fail
  have hnew : Hid (∀ X, X = W.alloc (.cells #[.int .i64 2, .int .i64 3, .int .i64 4, .int .i64 1] 3) → But b W X ∧ RdAt X b s i ∧ X.cell? ⟨W.heap.size, 0, none⟩ = some (.int .i64 2) ∧ X.cell? ⟨W.heap.size, 1, none⟩ = some (.int .i64 3)) := by
    rintro X rfl
    exact ⟨(But.refl b W).alloc _, H1.out.below ((Below.refl _ _).alloc (Nat.le_refl _) _), by simp, by simp⟩
  generalize hX : W.alloc (.cells #[.int .i64 2, .int .i64 3, .int .i64 4, .int .i64 1] 3) = X at *
  obtain ⟨hbX, hrX, x0, x1⟩ := hnew.out X rfl
  have HBX := Lib.hid (HB1.out.trans hbX)
  have HRX := Lib.hid hrX
  have c0 := hrX.c0
  have c1 := hrX.c1
  have f1 := hrX.fz 1
  clear hnew hX hbX hrX
  refine wp_loop_rounds 1 ?_
  rw [rounds_succ]
  go_wp2_with fail
  go_quiet ((first | (go_at_call 80; exact Calls.quiet_of_same (sign_2 _)) | (go_at_call 79; exact Calls.quiet_of_same (HP.out _))))
  go_wp2_with fail
  have HBX2 := Lib.hid (HBX.out.drewN nq)
  have HRX2 := Lib.hid (HRX.out.drewN nq)
  clear x0 x1 c0 c1 f1
  generalize X.drewN nq = Y at *
  have c1 := HRX2.out.c1
  have f1 := HRX2.out.fz 1
  go_still_tail 10, (by kernel_rfl)
  still_call (sign_2 _)
  repeat still_step
  refine wpStill_nil ?_
  change wpList _ _ _ _ _ Y.drew
  go_wp2_with fail
  go_ret
  exact ⟨rfl, (HBX2.out.set 1 _).drew, (op_end HRX2.out).drewN 1⟩

set_option maxRecDepth 100000 in
set_option maxHeartbeats 2000000 in
theorem op_re (w : World) (b : Nat) (s : ByteArray) (i : Nat) (hs : s.size ≤ 65536) (h : RdAt w b s i) (hn : NoBlank s i) (hi : i + 2 ≤ s.size) (hq : Lib.hasPrefix (s.extract i s.size).data.toList [33, 61] = false) (hp : Lib.hasPrefix (s.extract i s.size).data.toList [61, 126] = true) :
    Calls Tryz.prog 63 #[.pointer (some ⟨b, 0, none⟩)] w (fun e w' => e = .returned (.int .i64 3) ∧ But b w w' ∧ RdAt w' b s (i + 2)) := by
  have H := Lib.hid h
  have c0 := h.c0
  have c1 := h.c1
  have HC := Lib.hid (blanks_none w b s i h hn)
  have HQ : Hid (∀ w, Calls Tryz.prog 79 #[.string (s.extract i s.size), .string ⟨#[33, 61]⟩] w (fun e w' => e = .returned (.bool false) ∧ w' = w)) := fun w => by
    have := Tryz.strings_HasPrefix (s.extract i s.size) ⟨#[33, 61]⟩ w
    rw [show (⟨#[33, 61]⟩ : ByteArray).data.toList = [33, 61] from rfl, hq] at this
    exact this
  have HP : Hid (∀ w, Calls Tryz.prog 79 #[.string (s.extract i s.size), .string ⟨#[61, 126]⟩] w (fun e w' => e = .returned (.bool true) ∧ w' = w)) := fun w => by
    have := Tryz.strings_HasPrefix (s.extract i s.size) ⟨#[61, 126]⟩ w
    rw [show (⟨#[61, 126]⟩ : ByteArray).data.toList = [61, 126] from rfl, hp] at this
    exact this
  have hlt := h.lt
  clear hp hq hn
  have hi0 : (0 : Int) ≤ (i : Int) := by omega
  have hi1 : ¬ (s.size : Int) < (i : Int) := by omega
  have hi2 : i ≤ s.size := by omega
  have hw1 : IntKind.i64.wrap ((i : Int) + 2) = (i : Int) + 2 := by rw [IntKind.wrap_i64] <;> omega
  clear h
  go_enter Tryz.func63, Tryz.ntmps63
  go_wp2_with fail
  refine HC.out.mono ?_
  rintro e w1 ⟨rfl, m, rfl⟩
  clear HC
  have H1 := Lib.hid ((H.out.drewN m))
  have HB1 := Lib.hid ((But.refl b w).drewN m)
  generalize w.drewN m = W at *
  clear c0 c1 H
  go_wp2_with fail
  have hnew : Hid (∀ X, X = W.alloc (.cells #[.int .i64 2, .int .i64 3, .int .i64 4, .int .i64 1] 3) → But b W X ∧ RdAt X b s i ∧ X.cell? ⟨W.heap.size, 0, none⟩ = some (.int .i64 2) ∧ X.cell? ⟨W.heap.size, 1, none⟩ = some (.int .i64 3)) := by
    rintro X rfl
    exact ⟨(But.refl b W).alloc _, H1.out.below ((Below.refl _ _).alloc (Nat.le_refl _) _), by simp, by simp⟩
  generalize hX : W.alloc (.cells #[.int .i64 2, .int .i64 3, .int .i64 4, .int .i64 1] 3) = X at *
  obtain ⟨hbX, hrX, x0, x1⟩ := hnew.out X rfl
  have HBX := Lib.hid (HB1.out.trans hbX)
  have HRX := Lib.hid hrX
  have c0 := hrX.c0
  have c1 := hrX.c1
  have f1 := hrX.fz 1
  clear hnew hX hbX hrX
  refine wp_loop_rounds 2 ?_
  rw [rounds_succ]
  go_wp2_with fail
  go_quiet ((first | (go_at_call 80; exact Calls.quiet_of_same (sign_2 _)) | (go_at_call 79; exact Calls.quiet_of_same (HQ.out _))))
  have y1 : (X.drewN nq).cell? ⟨W.heap.size, 1, none⟩ = some (.int .i64 3) := x1
  have HBY := Lib.hid (HBX.out.drewN nq)
  have HRY := Lib.hid (HRX.out.drewN nq)
  clear x0 x1 c0 c1 f1 HBX HRX
  go_wp2_with fail
  generalize X.drewN nq = Z at *
  have c0 := HRY.out.c0
  have c1 := HRY.out.c1
  rw [rounds_succ]
  go_wp2_with fail
  go_quiet ((first | (go_at_call 80; exact Calls.quiet_of_same (sign_3 _)) | (go_at_call 79; exact Calls.quiet_of_same (HP.out _))))
  go_wp2_with fail
  have HBX2 := Lib.hid (HBY.out.drewN nq)
  have HRX2 := Lib.hid (HRY.out.drewN nq)
  clear y1 c0 c1
  generalize Z.drewN nq = Y at *
  have c1 := HRX2.out.c1
  have f1 := HRX2.out.fz 1
  go_still_tail 10, (by kernel_rfl)
  still_call (sign_3 _)
  repeat still_step
  refine wpStill_nil ?_
  change wpList _ _ _ _ _ Y.drew
  go_wp2_with fail
  go_ret
  exact ⟨rfl, (HBX2.out.set 1 _).drew, (op_end HRX2.out).drewN 1⟩

end Go.Proofs.YtgcmjidphoklkaaGreatDoor.Ih

/- Walks over layer 6's reader: a value without escapes. -/
namespace Go.Proofs.YtgcmjidphoklkaaGreatDoor.Ih
open Go.RowKit Rx

theorem builtAt_other {B b k : Nat} {p : Value} {bs : List Value} {w w' : World} (h : Lib.BuilderAtF 35 5 B b p bs w) (hk : k < B) (hb : But k w w') : Lib.BuilderAtF 35 5 B b p bs w' := by
  have hlt := h.lt
  obtain ⟨hB, v, hv, hown, hne⟩ := h
  refine ⟨hB, v, (hb.block b hlt (by omega)).trans hv, hown.kept (row := some k) ⟨hb.os, hb.tape, hb.output, hb.size, fun i hi hn => hb.block i hi (fun e => hn (by rw [e]))⟩ ?_, hne⟩
  cases hg : v.ownBlock with
  | none => exact .inl rfl
  | some g => exact .inr (fun e => by injection e with e; have := (hown.lt g hg).1; omega)

theorem built_other {B b k : Nat} {bs : List Value} {w w' : World} (h : Built B b bs w) (hk : k < B) (hb : But k w w') : Built B b bs w' := h.imp (builtAt_other · hk hb) (builtAt_other · hk hb)

theorem byteCells_snoc (l : List UInt8) (x : UInt8) : Lib.byteCells (l ++ [x]) = Lib.byteCells l ++ [.int .u8 (x.toNat : Int)] := by rw [Lib.byteCells_append]; rfl

theorem drop_take_succ {l : List UInt8} {i k : Nat} (hik : i ≤ k) (hk : k < l.length) : (l.take (k + 1)).drop i = (l.take k).drop i ++ [l.getD k 0] := by
  rw [List.take_add_one, List.drop_append_of_le_length (by rw [List.length_take]; omega)]
  simp [List.getElem?_eq_getElem hk]

theorem built_end {w X Y w4 : World} {b B k : Nat} {s : ByteArray} (h : But b w X) (hr : RdAt Y b s k) (hy : But b X Y) (hb : Below B Y w4) (hlt : b < B) (hwB : w.heap.size ≤ B := by omega) : But b w w4 ∧ RdAt w4 b s k := by
  have hbk : ∀ i, i < B → w4.heap[i]? = Y.heap[i]? := fun i hi => hb.block i hi
  have h2 := h.trans hy
  refine ⟨⟨hb.os.trans h2.os, hb.tape.trans h2.tape, hb.output.trans h2.output, Nat.le_trans h2.size hb.size, fun i hi hn => (hbk i (by omega)).trans (h2.block i hi hn)⟩, hr.like (hbk b hlt) hb.size⟩

set_option maxRecDepth 100000 in
set_option maxHeartbeats 4000000 in
theorem value_ok' (w : World) (b : Nat) (s : ByteArray) (i j : Nat) (hs : s.size ≤ 65536) (h : RdAt w b s i) (hn : NoBlank s i) (hij : i < j) (hj : j < s.size) (hi34 : (s.get! i).toNat = 34) (hj34 : (s.get! j).toNat = 34)
    (hin : ∀ k, i < k → k < j → (s.get! k).toNat ≠ 34 ∧ (s.get! k).toNat ≠ 92) :
    Calls Tryz.prog 64 #[.pointer (some ⟨b, 0, none⟩)] w (fun e w' => e = .returned (.string ⟨((s.data.toList.take j).drop (i + 1)).toArray⟩) ∧ But b w w' ∧ RdAt w' b s (j + 1)) := by
  obtain ⟨res, hres⟩ : ∃ r, (⟨((s.data.toList.take j).drop (i + 1)).toArray⟩ : ByteArray) = r := ⟨_, rfl⟩
  rw [hres]
  have HRES := Lib.hid hres
  have HIN := Lib.hid hin
  have HJ := Lib.hid hj34
  have hlt := h.lt
  have HC := Lib.hid (want_ok w b s i 34 hs h hn (by omega) (by rw [hi34]; rfl))
  have hsl := Lib.size_eq s
  have HSL := Lib.hid hsl
  clear h hn hin hres hi34 hj34 hsl
  go_enter Tryz.func64, Tryz.ntmps64
  go_wp2_with fail
  refine HC.out.mono ?_
  rintro e w1 ⟨rfl, hb1, h1⟩
  have hz1 := hb1.size
  have HB1 := Lib.hid hb1
  have H1 := Lib.hid h1
  clear HC hb1 h1
  have hW : Hid (∀ W, W = w1.alloc (.cells #[.pointer none, .slice none 0 0] 35) → But b w W ∧ RdAt W b s (i + 1) ∧ W.heap.size = w1.heap.size + 1 ∧ Built w1.heap.size w1.heap.size (Lib.byteCells []) W) := by
    rintro W rfl
    exact ⟨HB1.out.alloc _, H1.out.below ((Below.refl _ _).alloc (Nat.le_refl _) _), by simp, .inl ⟨Nat.le_refl _, .slice none 0 0, heap_alloc_new w1 _, World.ownsRowF_nil _ _ _ _, by simp [Value.ownBlock]⟩⟩
  go_wp2_with fail
  generalize hWe : w1.alloc (.cells #[.pointer none, .slice none 0 0] 35) = W at *
  obtain ⟨hbW, hrW, hsW, hbu⟩ := hW.out W rfl
  have HBW := Lib.hid hbW
  have HRW := Lib.hid hrW
  have HBU := Lib.hid hbu
  clear hW hWe hbW hrW hbu
  generalize hB : w1.heap.size = B at *
  clear hB
  go_loopg [] (j - i) (fun g wr => ∃ k, i < k ∧ k + g = j + 1 ∧ 0 < g ∧ But b w wr ∧ RdAt wr b s k ∧ B ≤ wr.heap.size ∧ Built B B (Lib.byteCells ((s.data.toList.take k).drop (i + 1))) wr)
  case atStart => exact ⟨i + 1, by omega, by omega, by omega, HBW.out, HRW.out, by omega, by simpa using HBU.out⟩
  case round =>
    obtain ⟨k, hik, hkg, hg0, hb, hr, hBw, hbu⟩ := hrel
    have HB := Lib.hid hb
    have HR := Lib.hid hr
    have HBU := Lib.hid hbu
    have c0 := hr.c0
    have c1 := hr.c1
    have f1 := hr.fz 1
    have hsz := hb.size
    clear hb hr hbu
    have hks : k < s.size := by omega
    have hg : s[k]'hks = s.get! k := (Utf8W.get!_of_lt s k hks).symm
    have hgd : s.get! k = s.data.toList.getD k 0 := by rw [← hg, List.getD_eq_getElem?_getD, List.getElem?_eq_getElem (by rw [← HSL.out]; exact hks)]; rfl
    have HGD := Lib.hid hgd
    obtain ⟨x, hx⟩ : ∃ x, s.get! k = x := ⟨_, rfl⟩
    have HX := Lib.hid hx
    rw [hx] at hg
    obtain ⟨y, hy⟩ : ∃ y : Int, (x.toNat : Int) = y := ⟨_, rfl⟩
    have HY := Lib.hid hy
    have hil : (k : Int) < (s.size : Int) := by omega
    have hi0 : (0 : Int) ≤ (k : Int) := by omega
    have hw1 : IntKind.i64.wrap ((k : Int) + 1) = (k : Int) + 1 := by rw [IntKind.wrap_i64] <;> omega
    clear hx hgd
    go_wp2_with fail
    go_quiet (fail)
    obtain ⟨n1, rfl⟩ : ∃ n1, n1 = nq := ⟨_, rfl⟩
    go_wp2_with fail
    have HB2 := Lib.hid (HB.out.drewN n1)
    have HR2 := Lib.hid (HR.out.drewN n1)
    have HBU2 : Hid (Built B B (Lib.byteCells ((s.data.toList.take k).drop (i + 1))) (wr.drewN n1)) := HBU.out
    have hB2 : B ≤ (wr.drewN n1).heap.size := hBw
    clear c0 c1 f1 HB HR HBU
    generalize wr.drewN n1 = X at *
    have c0 := HR2.out.c0
    have c1 := HR2.out.c1
    have f1 := HR2.out.fz 1
    go_quiet (fail)
    obtain ⟨n2, rfl⟩ : ∃ n2, n2 = nq := ⟨_, rfl⟩
    have HF := Lib.hid (next_end HR2.out n2 hks)
    have HBF := Lib.hid (HB2.out.trans HF.out.1)
    have HUF := Lib.hid (built_other HBU2.out (by omega : b < B) HF.out.1)
    have hBF : B ≤ ((X.drewN n2).setCell ⟨b, 1, none⟩ (.int .i64 ((k : Int) + 1))).heap.size := by simpa [World.setCell] using hB2
    have HDR := Lib.hid (drop_take_succ (l := s.data.toList) (i := i + 1) (k := k) (by omega) (by rw [← HSL.out]; exact hks))
    have hlen : (Lib.byteCells ((s.data.toList.take k).drop (i + 1))).length ≤ 65536 := by
      rw [Lib.byteCells_length, List.length_drop, List.length_take, ← HSL.out]; omega
    by_cases hkj : k = j
    · subst hkj
      have hy1 : (y == 34) = true := by rw [← HY.out, ← HX.out, HJ.out]; rfl
      go_wp2_with fail
      refine (Tryz.Builder_String_any_k B B _ _ HUF.out hBF).mono ?_
      rintro e w4 ⟨rfl, _, hb4, _⟩
      rw [HRES.out]
      have HF4 := Lib.hid (built_end HB2.out HF.out.2 HF.out.1 hb4 (by omega))
      clear hb4
      go_wp2_with fail
      go_ret
      exact ⟨rfl, HF4.out⟩
    · have hkl : k < j := by omega
      have ⟨n34, n92⟩ := HIN.out k hik hkl
      have hy1 : (y == 34) = false := beq_eq_false_iff_ne.2 (by rw [← HY.out, ← HX.out]; omega)
      have hy2 : (y == 92) = false := beq_eq_false_iff_ne.2 (by rw [← HY.out, ← HX.out]; omega)
      clear n34 n92
      go_wp2_with fail
      refine (writeByte_any _ B B _ y HUF.out (by omega) hBF).mono ?_
      rintro e w4 ⟨rfl, hu4, hb4, _⟩
      have HF4 := Lib.hid (built_end HB2.out HF.out.2 HF.out.1 hb4 (by omega))
      have HU4 := Lib.hid hu4
      have hB4 : B ≤ w4.heap.size := Nat.le_trans hBF hb4.size
      clear hb4 hu4
      go_wp2_with fail
      go_roundg (gk - 1)
      case measure => omega
      case rel => exact ⟨k + 1, by omega, by omega, by omega, HF4.out.1, HF4.out.2, hB4, by rw [HDR.out, ← HGD.out, HX.out, byteCells_snoc, HY.out]; exact HU4.out⟩

end Go.Proofs.YtgcmjidphoklkaaGreatDoor.Ih
