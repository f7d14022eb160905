/- Walk over layer 5's Quote. -/
import Derived.Test.YtgcmjidphoklkaaGreatDoorRxQa
import Derived.Test.YtgcmjidphoklkaaGreatDoorRxQb
import Derived.Test.YtgcmjidphoklkaaGreatDoorRxMt
namespace Go.Proofs.YtgcmjidphoklkaaGreatDoor.Rx
open Go.RowKit Go.Sort

theorem decode_scalar (s : ByteArray) (pos : Nat) : Scalar ((Utf8.decode s pos).1 : Int) := by
  rw [Lib.decode_at]
  exact decodeN_scalar _ _ _ _ _ (UInt8.toNat_lt _)

theorem rnF_scalar (s : ByteArray) : ∀ (f pos : Nat) (c : Int), c ∈ rnF s f pos → Scalar c
  | 0, _, _, h => by simp [rnF] at h
  | f + 1, pos, c, h => by
    simp only [rnF] at h
    split at h
    · rcases List.mem_cons.1 h with rfl | h
      · exact decode_scalar s pos
      · exact rnF_scalar s f _ c h
    · simp at h

theorem rnF_len (s : ByteArray) : ∀ (f pos : Nat), (rnF s f pos).length ≤ f
  | 0, _ => by simp [rnF]
  | f + 1, pos => by
    have := rnF_len s f (pos + (Utf8.decode s pos).2)
    simp only [rnF]
    split
    · simp; omega
    · simp

theorem encode_len4 (c : Int) : (Lib.encodeRune c).length ≤ 4 := by
  have := Lib.runeCells_le c
  rw [Lib.runeCells_length] at this
  exact this.2

theorem qc_len (c : Int) : (qc c).length ≤ 5 := by
  have := encode_len4 c
  unfold qc
  repeat' split
  all_goals simp <;> omega

theorem quote_len5 : ∀ u : List Int, (quoteL u).length ≤ 5 * u.length
  | [] => by simp [quoteL]
  | c :: u => by
    have := quote_len5 u
    have := qc_len c
    simp only [quoteL, List.length_append, List.length_cons]
    omega

def QtRel (w : World) (s : ByteArray) (it b : Nat) (g : Nat) (wr : World) : Prop :=
  ∃ pos l, wr.heap[it]? = some (.stringIter s pos) ∧ Built w.heap.size b (Lib.byteCells l) wr ∧ l ++ quoteL (rnAt s pos) = quoteL (rnAt s 0) ∧ g = s.size - pos ∧ Below w.heap.size w wr

set_option maxHeartbeats 2000000 in
theorem quote_any (w : World) (s : ByteArray) (hs : s.size ≤ 1048576) :
    Calls Tryz.prog 4 #[.string s] w (fun e w' => e = .returned (.string ⟨(quoteL (rnAt s 0)).toArray⟩) ∧ Below w.heap.size w w') := by
  have hW : Hid (∀ W, W = (w.alloc (.cells #[.pointer none, .slice none 0 0] 35)).iter s 0 → Below w.heap.size w W ∧ W.heap.size = w.heap.size + 2 ∧ W.heap[w.heap.size + 1]? = some (.stringIter s 0) ∧ Built w.heap.size w.heap.size (Lib.byteCells []) W) := by
    rintro W rfl
    refine ⟨((Below.refl _ _).alloc (Nat.le_refl _) _).alloc (by simp) _, by simp [World.iter], ?_, .inl ⟨Nat.le_refl _, .slice none 0 0, ?_, World.ownsRowF_nil _ _ _ _, by simp [Value.ownBlock]⟩⟩
    · have := World.iter_heap (w.alloc (.cells #[.pointer none, .slice none 0 0] 35)) s 0
      simpa using this
    · exact (Below.heap_alloc _ _ _ (by simp)).trans (heap_alloc_new w _)
  go_enter Tryz.func4, Tryz.ntmps4
  go_wp2_with fail
  generalize hWe : (w.alloc (.cells #[.pointer none, .slice none 0 0] 35)).iter s 0 = W at *
  obtain ⟨hBW, hsW, hit, hbu⟩ := hW.out W rfl
  clear hW hWe
  have HBW := Lib.hid hBW
  have HIT := Lib.hid hit
  have HBU := Lib.hid hbu
  clear hBW hit hbu
  go_loopg [5] s.size (fun g _ wr => QtRel w s (w.heap.size + 1) w.heap.size g wr)
  case atStart => exact ⟨0, [], HIT.out, HBU.out, rfl, by simp, HBW.out⟩
  case round =>
    obtain ⟨pos, l, hit, hbu, hl, hgq, hbl⟩ := hrel
    have hsr : w.heap.size + 1 < wr.heap.size := (Array.getElem?_eq_some_iff.1 hit).1
    have HL := Lib.hid hl
    have HBL := Lib.hid hbl
    by_cases hp : pos < s.size
    · have hnx : ∀ ty, (Instr.next (.pointer (some ⟨w.heap.size + 1, 0, none⟩)) true ty).run Tryz.prog wr = _ := fun ty => Lib.run_next_any_at wr (w.heap.size + 1) s pos ty hit hp
      have hwp := width_pos s pos hp
      have hsc := decode_scalar s pos
      have hlen : l.length + (quoteL (rnAt s pos)).length ≤ 5242880 := by
        have h1 := congrArg List.length hl
        rw [List.length_append] at h1
        have h2 := quote_len5 (rnAt s 0)
        have h3 : (rnAt s 0).length ≤ s.size := by have := rnF_len s (s.size - 0) 0; simpa [rnAt] using this
        omega
      rw [rnAt_cons s pos hp] at hl hlen
      simp only [quoteL, List.length_append] at hl hlen
      have HL2 := Lib.hid hl
      have HLEN := Lib.hid hlen
      have hbu2 := Lib.IsBuilderF.iterAt hbu hit (pos + (Utf8.decode s pos).2)
      have hit2 := Lib.iterAt_heap wr (w.heap.size + 1) s pos (pos + (Utf8.decode s pos).2) hit
      have hbi := Lib.below_iterAt hbl (k := w.heap.size + 1) (by omega) s (pos + (Utf8.decode s pos).2)
      have hsi : (wr.iterAt (w.heap.size + 1) s (pos + (Utf8.decode s pos).2)).heap.size = wr.heap.size := Lib.iterAt_size _ _ _ _
      have HBU2 := Lib.hid hbu2
      have HIT2 := Lib.hid hit2
      have HBI := Lib.hid hbi
      have HSI := Lib.hid hsi
      have HSC := Lib.hid hsc
      clear hbu hl hbl hit hbu2 hit2 hbi hsi hsc hlen HL HBL
      generalize hci : wr.iterAt (w.heap.size + 1) s (pos + (Utf8.decode s pos).2) = wi at *
      generalize hcc : ((Utf8.decode s pos).1 : Int) = c at *
      clear hci hcc
      have HWP := Lib.hid hwp
      clear hwp
      generalize hpp : pos + (Utf8.decode s pos).2 = pos2 at *
      have hsz2 : w.heap.size ≤ wi.heap.size := by have := HSI.out; omega
      have hlb := Lib.byteCells_length l
      have HLB := Lib.hid hlb
      clear hlb
      have hl5 : l.length ≤ 5242880 := by have := HLEN.out; omega
      by_cases h10 : c = 10
      · subst h10
        go_wp2_with fail
        refine (writeString_any wi w.heap.size w.heap.size (Lib.byteCells l) ⟨#[92, 110]⟩ HBU2.out (by rw [HLB.out]; show l.length + 2 ≤ _; omega) hsz2).mono ?_
        rintro e w2 ⟨rfl, hb2, hbl2, ho2⟩
        have HB2 := Lib.hid hb2
        have HR2 := Lib.hid ho2
        have HL2' := Lib.hid hbl2
        clear hb2 hbl2 ho2
        go_wp2_with fail
        go_roundg (s.size - pos2)
        case measure => have := HWP.out; omega
        case rel => exact ⟨pos2, l ++ qc 10, HR2.out.iter HIT2.out (by omega), by rw [Lib.byteCells_append]; exact HB2.out, by rw [List.append_assoc]; exact HL2.out, rfl, HBI.out.trans HL2'.out⟩
      have n10 : (c == 10) = false := by simpa using h10
      by_cases h13 : c = 13
      · subst h13
        go_wp2_with fail
        refine (writeString_any wi w.heap.size w.heap.size (Lib.byteCells l) ⟨#[92, 114]⟩ HBU2.out (by rw [HLB.out]; show l.length + 2 ≤ _; omega) hsz2).mono ?_
        rintro e w2 ⟨rfl, hb2, hbl2, ho2⟩
        have HB2 := Lib.hid hb2
        have HR2 := Lib.hid ho2
        have HL2' := Lib.hid hbl2
        clear hb2 hbl2 ho2
        go_wp2_with fail
        go_roundg (s.size - pos2)
        case measure => have := HWP.out; omega
        case rel => exact ⟨pos2, l ++ qc 13, HR2.out.iter HIT2.out (by omega), by rw [Lib.byteCells_append]; exact HB2.out, by rw [List.append_assoc]; exact HL2.out, rfl, HBI.out.trans HL2'.out⟩
      have n13 : (c == 13) = false := by simpa using h13
      by_cases h9 : c = 9
      · subst h9
        go_wp2_with fail
        refine (writeString_any wi w.heap.size w.heap.size (Lib.byteCells l) ⟨#[92, 116]⟩ HBU2.out (by rw [HLB.out]; show l.length + 2 ≤ _; omega) hsz2).mono ?_
        rintro e w2 ⟨rfl, hb2, hbl2, ho2⟩
        have HB2 := Lib.hid hb2
        have HR2 := Lib.hid ho2
        have HL2' := Lib.hid hbl2
        clear hb2 hbl2 ho2
        go_wp2_with fail
        go_roundg (s.size - pos2)
        case measure => have := HWP.out; omega
        case rel => exact ⟨pos2, l ++ qc 9, HR2.out.iter HIT2.out (by omega), by rw [Lib.byteCells_append]; exact HB2.out, by rw [List.append_assoc]; exact HL2.out, rfl, HBI.out.trans HL2'.out⟩
      have n9 : (c == 9) = false := by simpa using h9
      have hcr : -2147483648 ≤ c ∧ c ≤ 2147483647 := by have := HSC.out; unfold Scalar at this; omega
      go_wp2_with fail
      refine (sign_any c wi).mono ?_
      rintro e w2 ⟨rfl, rfl⟩
      rcases hsg : signP c with _ | _
      · have hq : qc c = Lib.encodeRune c := by
          unfold qc
          rw [if_neg h10, if_neg h13, if_neg h9, if_neg (by rw [hsg]; simp)]
        have HQ := Lib.hid hq
        have HSG := Lib.hid hsg
        clear hq
        go_wp2_with fail
        refine (writeRune_any wi w.heap.size w.heap.size (Lib.byteCells l) c hcr.1 hcr.2 HBU2.out (by rw [HLB.out]; omega) hsz2).mono ?_
        rintro e w2 ⟨⟨n, rfl⟩, hb2, hbl2, ho2⟩
        have HB2 := Lib.hid hb2
        have HR2 := Lib.hid ho2
        have HL2' := Lib.hid hbl2
        clear hb2 hbl2 ho2
        go_wp2_with fail
        go_roundg (s.size - pos2)
        case measure => have := HWP.out; omega
        case rel => exact ⟨pos2, l ++ qc c, HR2.out.iter HIT2.out (by omega), by rw [Lib.byteCells_append, HQ.out, Lib.byteCells_encodeRune]; exact HB2.out, by rw [List.append_assoc]; exact HL2.out, rfl, HBI.out.trans HL2'.out⟩
      · have hq : qc c = 92 :: Lib.encodeRune c := by
          unfold qc
          rw [if_neg h10, if_neg h13, if_neg h9, if_pos hsg]
        have HQ := Lib.hid hq
        have HSG := Lib.hid hsg
        clear hq
        go_wp2_with fail
        refine (writeByte_any wi w.heap.size w.heap.size (Lib.byteCells l) 92 HBU2.out (by rw [HLB.out]; omega) hsz2).mono ?_
        rintro e w2 ⟨rfl, hb2, hbl2, ho2⟩
        have HB2 := Lib.hid hb2
        have HR2 := Lib.hid ho2
        have HL2' := Lib.hid hbl2
        have hsz3 := hbl2.size
        clear hb2 hbl2 ho2
        go_wp2_with fail
        refine (writeRune_any w2 w.heap.size w.heap.size _ c hcr.1 hcr.2 HB2.out (by rw [List.length_append, HLB.out, List.length_singleton]; omega) (by omega)).mono ?_
        rintro e w4 ⟨⟨n, rfl⟩, hb4, hbl4, ho4⟩
        have HB4 := Lib.hid hb4
        have HR4 := Lib.hid ho4
        have HL4 := Lib.hid hbl4
        clear hb4 hbl4 ho4
        go_wp2_with fail
        go_roundg (s.size - pos2)
        case measure => have := HWP.out; omega
        case rel => exact ⟨pos2, l ++ qc c, HR4.out.iter (HR2.out.iter HIT2.out (by omega)) (by omega), by rw [Lib.byteCells_append, HQ.out, show Lib.byteCells (92 :: Lib.encodeRune c) = [.int .u8 92] ++ Lib.byteCells (Lib.encodeRune c) from rfl, Lib.byteCells_encodeRune, ← List.append_assoc]; exact HB4.out, by rw [List.append_assoc]; exact HL2.out, rfl, HBI.out.trans (HL2'.out.trans HL4.out)⟩
    · have hnx : ∀ ty, (Instr.next (.pointer (some ⟨w.heap.size + 1, 0, none⟩)) true ty).run Tryz.prog wr = _ := fun ty => Lib.run_next_end_at wr (w.heap.size + 1) s pos ty hit hp
      have HBU := Lib.hid hbu
      rw [rnAt_end s pos hp] at hl
      simp only [quoteL, List.append_nil] at hl
      have HLE := Lib.hid hl
      clear hit hbu hl hbl HL
      go_wp2_with fail
      refine (Tryz.Builder_String_any_k w.heap.size w.heap.size l wr HBU.out (by omega)).mono ?_
      rintro e w2 ⟨rfl, _, hb2, _⟩
      have HB2 := Lib.hid hb2
      clear hb2
      go_wp2_with fail
      go_ret
      exact ⟨by rw [← HLE.out]; rfl, HBL.out.trans HB2.out⟩

end Go.Proofs.YtgcmjidphoklkaaGreatDoor.Rx
