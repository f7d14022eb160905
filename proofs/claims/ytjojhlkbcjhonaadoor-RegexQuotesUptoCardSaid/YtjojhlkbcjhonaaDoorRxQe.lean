/- Walk over the references' Utf8: what it lets through is right UTF-8. -/
import Derived.Test.YtjojhlkbcjhonaaDoorRxQc
namespace Go.Proofs.YtjojhlkbcjhonaaDoor.Rx
open Go.RowKit Go.Sort

/-- From place i on a text is right UTF-8. -/
def Vd (s : ByteArray) (i : Nat) : Prop := encAll (rnAt s i) = s.data.toList.drop i

theorem Vd.end_ (s : ByteArray) (i : Nat) (h : s.size ≤ i) : Vd s i := by
  unfold Vd
  rw [rnAt_end s i (by omega), List.drop_eq_nil_of_le (by rw [← size_list]; exact h)]
  rfl

theorem Vd.step {s : ByteArray} {i : Nat} (hi : i < s.size) (hv : ¬ ((Utf8.decode s i).1 = 65533 ∧ (Utf8.decode s i).2 = 1)) (h : Vd s (i + (Utf8.decode s i).2)) : Vd s i := by
  unfold Vd at h ⊢
  have hne : s.data.toList.drop i ≠ [] := by
    intro e
    have := congrArg List.length e
    rw [List.length_drop, ← size_list] at this
    simp at this
    omega
  rw [← Lib.decodeL_drop] at hv h
  have he := Lib.encode_decode _ hne hv
  rw [rnAt_cons s i hi, ← Lib.decodeL_drop]
  show Lib.encodeRune _ ++ encAll _ = _
  rw [he, h, ← List.drop_drop]
  exact List.take_append_drop _ _

theorem and31 : ∀ x : Fin 256, bits BinOp.and .i64 (x.val : Int) 31 = ((x.val % 32 : Nat) : Int) := by decide +kernel
theorem and15 : ∀ x : Fin 256, bits BinOp.and .i64 (x.val : Int) 15 = ((x.val % 16 : Nat) : Int) := by decide +kernel
theorem and7 : ∀ x : Fin 256, bits BinOp.and .i64 (x.val : Int) 7 = ((x.val % 8 : Nat) : Int) := by decide +kernel
theorem and192 : ∀ x : Fin 256, (bits BinOp.and .u8 (x.val : Int) 192 != 128) = !(x.val / 64 == 2) := by decide +kernel
theorem and63 : ∀ x : Fin 256, bits BinOp.and .u8 (x.val : Int) 63 = ((x.val % 64 : Nat) : Int) := by decide +kernel

/-- The value behind j continuations. -/
def Xv (s : ByteArray) (i x0 : Nat) : Nat → Nat
  | 0 => x0
  | j + 1 => Xv s i x0 j * 64 + (s.get! (i + (j + 1))).toNat % 64

theorem Xv_le (s : ByteArray) (i x0 : Nat) : ∀ j, Xv s i x0 j < (x0 + 1) * 64 ^ j
  | 0 => by simp [Xv]
  | j + 1 => by
    have := Xv_le s i x0 j
    have h2 : (x0 + 1) * 64 ^ (j + 1) = (x0 + 1) * 64 ^ j * 64 := by rw [Nat.pow_succ, ← Nat.mul_assoc]
    simp only [Xv]
    omega

theorem Xv_small {s : ByteArray} {i x0 j : Nat} (h0 : x0 < 32) (hj : j ≤ 3) : Xv s i x0 j ≤ 8388607 := by
  have h := Xv_le s i x0 j
  have h2 : (64 : Nat) ^ j ≤ 64 ^ 3 := Nat.pow_le_pow_right (by decide) hj
  have h3 : (x0 + 1) * 64 ^ j ≤ 32 * 64 ^ 3 := Nat.mul_le_mul (by omega) h2
  omega

def UtRel (w : World) (s : ByteArray) (g : Nat) (i : Value) (wr : World) : Prop :=
  ∃ k : Nat, i = .int .i64 k ∧ k ≤ s.size ∧ g = s.size - k ∧ wr = w ∧ (Vd s k → Vd s 0)

def InU (w : World) (s : ByteArray) (i x0 n : Nat) (g : Nat) (x kk : Value) (wr : World) : Prop :=
  ∃ j : Nat, j + g = n ∧ x = .int .i64 (Xv s i x0 j) ∧ kk = .int .i64 ((j : Int) + 1) ∧ wr = w ∧ ∀ t, 1 ≤ t → t ≤ j → i + t < s.size ∧ (s.get! (i + t)).toNat / 64 = 2

theorem get_is (s : ByteArray) (k : Nat) (h : k < s.size) : (s[k]'h).toNat = (s.get! k).toNat := by
  have := get_at s k h
  rw [Nat.add_zero] at this
  rw [this]

theorem dec2 {s : ByteArray} {k : Nat} (h1 : 194 ≤ (s.get! k).toNat) (h2 : (s.get! k).toNat < 224) (hc : ∀ t, 1 ≤ t → t ≤ 1 → k + t < s.size ∧ (s.get! (k + t)).toNat / 64 = 2) (hm : 128 ≤ Xv s k ((s.get! k).toNat % 32) 1) :
    Utf8.decode s k = (Xv s k ((s.get! k).toNat % 32) 1, 2) := by
  have c1 := hc 1 (by omega) (by omega)
  rw [Lib.decode_at]
  simp only [Xv, Nat.zero_add] at hm ⊢
  unfold Lib.decodeN
  rw [if_neg (by omega), if_pos ⟨by omega, by omega, by omega⟩, if_pos (by omega)]

theorem dec3 {s : ByteArray} {k : Nat} (h1 : 224 ≤ (s.get! k).toNat) (h2 : (s.get! k).toNat < 240) (hc : ∀ t, 1 ≤ t → t ≤ 2 → k + t < s.size ∧ (s.get! (k + t)).toNat / 64 = 2) (hm : 2048 ≤ Xv s k ((s.get! k).toNat % 16) 2)
    (hu : Xv s k ((s.get! k).toNat % 16) 2 < 55296 ∨ 57344 ≤ Xv s k ((s.get! k).toNat % 16) 2) : Utf8.decode s k = (Xv s k ((s.get! k).toNat % 16) 2, 3) := by
  have c1 := hc 1 (by omega) (by omega)
  have c2 := hc 2 (by omega) (by omega)
  rw [Lib.decode_at]
  simp only [Xv, Nat.zero_add, Nat.reduceAdd] at hm hu ⊢
  unfold Lib.decodeN
  rw [if_neg (by omega), if_neg (by omega), if_pos ⟨by omega, ⟨by omega, by omega⟩, by omega, by omega⟩, if_pos ⟨by omega, by omega⟩]
  refine congrArg (·, _) ?_
  omega

theorem dec4 {s : ByteArray} {k : Nat} (h1 : 240 ≤ (s.get! k).toNat) (h2 : (s.get! k).toNat < 245) (hc : ∀ t, 1 ≤ t → t ≤ 3 → k + t < s.size ∧ (s.get! (k + t)).toNat / 64 = 2) (hm : 65536 ≤ Xv s k ((s.get! k).toNat % 8) 3)
    (hu : Xv s k ((s.get! k).toNat % 8) 3 ≤ 1114111) : Utf8.decode s k = (Xv s k ((s.get! k).toNat % 8) 3, 4) := by
  have c1 := hc 1 (by omega) (by omega)
  have c2 := hc 2 (by omega) (by omega)
  have c3 := hc 3 (by omega) (by omega)
  rw [Lib.decode_at]
  simp only [Xv, Nat.zero_add, Nat.reduceAdd] at hm hu ⊢
  unfold Lib.decodeN
  rw [if_neg (by omega), if_neg (by omega), if_neg (by omega), if_pos ⟨by omega, ⟨by omega, by omega⟩, ⟨by omega, by omega⟩, by omega, by omega⟩, if_pos ⟨by omega, by omega⟩]
  refine congrArg (·, _) ?_
  omega

def UtSaid (w : World) (s : ByteArray) (e : Ending) (w' : World) : Prop := w' = w ∧ ∃ b : Bool, e = .returned (.bool b) ∧ (b = true → Vd s 0)

set_option maxRecDepth 20000 in
set_option maxHeartbeats 8000000 in
theorem utf8_any (w : World) (s : ByteArray) (hs : s.size ≤ 1048576) :
    Calls Tryd.prog 18 #[.string s] w (UtSaid w s) := by
  go_enter Tryd.func18, Tryd.ntmps18
  go_wp2_with fail
  go_loopg [3] s.size (fun g i wr => UtRel w s g i wr)
  case atStart => exact ⟨0, rfl, by omega, by omega, rfl, id⟩
  case round =>
    obtain ⟨k, rfl, hk, hgq, rfl, hv⟩ := hrel
    have HV := Lib.hid hv
    clear hv
    by_cases hp : k < s.size
    · have hby := get_is s k hp
      have hb0 : (s.get! k).toNat < 256 := UInt8.toNat_lt _
      have hdec := Lib.decode_at s k
      have HDEC := Lib.hid hdec
      clear hdec
      generalize hB : (s.get! k).toNat = B at *
      have HBB := Lib.hid hB
      clear hB
      have hwr : IntKind.i64.wrap (B : Int) = (B : Int) := by rw [IntKind.wrap_i64] <;> omega
      have a31 : bits BinOp.and .i64 (B : Int) 31 = ((B % 32 : Nat) : Int) := and31 ⟨B, hb0⟩
      have a15 : bits BinOp.and .i64 (B : Int) 15 = ((B % 16 : Nat) : Int) := and15 ⟨B, hb0⟩
      have a7 : bits BinOp.and .i64 (B : Int) 7 = ((B % 8 : Nat) : Int) := and7 ⟨B, hb0⟩
      have hk1 : IntKind.i64.wrap ((k : Int) + 1) = (k : Int) + 1 := by rw [IntKind.wrap_i64] <;> omega
      by_cases h1 : B < 128
      · go_wp2_with fail
        go_roundg (s.size - (k + 1))
        case measure => omega
        case rel =>
          have hd : Utf8.decode s k = (B, 1) := by rw [HDEC.out]; simp [Lib.decodeN, h1]
          exact ⟨k + 1, by simp, by omega, rfl, rfl, fun h => HV.out (Vd.step hp (by rw [hd]; simp; omega) (by rw [hd]; exact h))⟩
      by_cases h2 : B < 194
      · go_wp2_with fail
        go_ret
        exact ⟨rfl, false, rfl, fun h => by cases h⟩
      by_cases h3 : B < 224
      · have hx0 : B % 32 < 32 := by omega
        generalize hX : B % 32 = x0 at *
        have HX := Lib.hid hX
        clear hX
        go_wp2_with fail
        have HR1 := Lib.hid h1
        have HR2 := Lib.hid h2
        have HR3 := Lib.hid h3
        skip
        clear h1 h2 h3
        generalize decide ((B : Int) < 128) = Q1 at *
        generalize decide ((B : Int) < 224) = Q2 at *
        generalize decide ((B : Int) < 240) = Q3 at *
        generalize decide ((B : Int) < 245) = Q4 at *
        go_loopg [7, 8] 1 (fun g x kk wr' => InU wr s k x0 1 g x kk wr')
        case atStart => exact ⟨0, by omega, rfl, rfl, rfl, fun t h1 h2 => by omega⟩
        case round =>
          obtain ⟨j, hjg, rfl, rfl, hwe, hct⟩ := hrel
          subst hwe
          have hxs := Xv_small (s := s) (i := k) (x0 := x0) (j := j) hx0 (by omega)
          have HCT := Lib.hid hct
          clear hct
          by_cases hlt : j < 1
          · have hxn : Xv s k x0 (j + 1) = Xv s k x0 j * 64 + (s.get! (k + (j + 1))).toNat % 64 := rfl
            have HXN := Lib.hid hxn
            clear hxn
            generalize hXJ : Xv s k x0 j = X at *
            generalize hm : k + (j + 1) = m at *
            have hm1 : IntKind.i64.wrap ((k : Int) + ((j : Int) + 1)) = (m : Int) := by rw [IntKind.wrap_i64] <;> omega
            have hj2 : IntKind.i64.wrap ((j : Int) + 1 + 1) = (j : Int) + 1 + 1 := by rw [IntKind.wrap_i64] <;> omega
            have HM := Lib.hid hm
            have HXJ := Lib.hid hXJ
            have hle : (j : Int) + 1 ≤ 1 := by omega
            clear hm hXJ
            by_cases hms : m < s.size
            · have hby2 := get_is s m hms
              have hb1 : (s.get! m).toNat < 256 := UInt8.toNat_lt _
              generalize hD : (s.get! m).toNat = D at *
              have HD := Lib.hid hD
              clear hD
              have a192 : (bits BinOp.and .u8 (D : Int) 192 != 128) = !(D / 64 == 2) := and192 ⟨D, hb1⟩
              have a63 : bits BinOp.and .u8 (D : Int) 63 = ((D % 64 : Nat) : Int) := and63 ⟨D, hb1⟩
              have hwd : IntKind.i64.wrap ((D % 64 : Nat) : Int) = ((D % 64 : Nat) : Int) := by rw [IntKind.wrap_i64] <;> omega
              generalize hE : D % 64 = E at *
              have hwx : IntKind.i64.wrap ((X : Int) * 64) = (X : Int) * 64 := by rw [IntKind.wrap_i64] <;> omega
              have hwx2 : IntKind.i64.wrap ((X : Int) * 64 + (E : Int)) = (X : Int) * 64 + (E : Int) := by rw [IntKind.wrap_i64] <;> omega
              have HE := Lib.hid hE
              clear hE
              rcases hc : (D / 64 == 2) with _ | _
              · rw [hc] at a192
                go_wp2_with fail
                go_ret
                exact ⟨rfl, false, rfl, fun h => by cases h⟩
              · rw [hc] at a192
                have HC := Lib.hid hc
                clear hc
                go_wp2_with fail
                go_roundg (gk - 1)
                case measure => omega
                case rel => exact ⟨j + 1, by omega, by rw [HXN.out]; simp, by simp, rfl, fun t h1 h2 => by
                  by_cases ht : t ≤ j
                  · exact HCT.out t h1 ht
                  · obtain rfl : t = j + 1 := by omega
                    rw [HM.out, HD.out]
                    exact ⟨hms, by simpa using HC.out⟩⟩
            · go_wp2_with fail
              go_ret
              exact ⟨rfl, false, rfl, fun h => by cases h⟩
          · obtain rfl : j = 1 := by omega
            have hdc := fun h1 h2 => (show (128 ≤ Xv s k x0 1 → (Xv s k x0 1 < 55296 ∨ 57344 ≤ Xv s k x0 1) → Utf8.decode s k = (Xv s k x0 1, 2)) from fun h1 _ => by have := dec2 (s := s) (k := k) (by rw [HBB.out]; have := HR2.out; have := HR3.out; omega) (by rw [HBB.out]; have := HR3.out; omega) HCT.out (by rw [HBB.out, HX.out]; exact h1); rw [HBB.out, HX.out] at this; exact this) h1 h2
            generalize hY : Xv s k x0 1 = Y at *
            have HY := Lib.hid hY
            clear hY
            have HDC := Lib.hid hdc
            clear hdc
            have hi1 : IntKind.i64.wrap ((k : Int) + 1) = (k : Int) + 1 := by rw [IntKind.wrap_i64] <;> omega
            have hi2 : IntKind.i64.wrap ((k : Int) + 1 + 1) = (k : Int) + 1 + 1 := by rw [IntKind.wrap_i64] <;> omega
            have hkn := (HCT.out 1 (by omega) (by omega)).1
            by_cases g1 : Y < 128
            · go_wp2_with fail
              go_ret
              exact ⟨rfl, false, rfl, fun h => by cases h⟩
            by_cases g2 : 1114111 < Y
            · go_wp2_with fail
              go_ret
              exact ⟨rfl, false, rfl, fun h => by cases h⟩
            by_cases g3 : Y < 55296
            · go_wp2_with fail
              go_roundg (s.size - (k + 1 + 1))
              case measure => omega
              case rel => exact ⟨k + 1 + 1, by simp, by omega, rfl, rfl, fun h => HV.out (Vd.step hp (by rw [HDC.out (by omega) (by omega)]; simp) (by rw [HDC.out (by omega) (by omega)]; exact h))⟩
            by_cases g4 : Y < 57344
            · go_wp2_with fail
              go_ret
              exact ⟨rfl, false, rfl, fun h => by cases h⟩
            · go_wp2_with fail
              go_roundg (s.size - (k + 1 + 1))
              case measure => omega
              case rel => exact ⟨k + 1 + 1, by simp, by omega, rfl, rfl, fun h => HV.out (Vd.step hp (by rw [HDC.out (by omega) (by omega)]; simp) (by rw [HDC.out (by omega) (by omega)]; exact h))⟩
      by_cases h4 : B < 240
      · have hx0 : B % 16 < 32 := by omega
        generalize hX : B % 16 = x0 at *
        have HX := Lib.hid hX
        clear hX
        go_wp2_with fail
        have HR1 := Lib.hid h1
        have HR2 := Lib.hid h2
        have HR3 := Lib.hid h3
        have HR4 := Lib.hid h4
        clear h4
        clear h1 h2 h3
        generalize decide ((B : Int) < 128) = Q1 at *
        generalize decide ((B : Int) < 224) = Q2 at *
        generalize decide ((B : Int) < 240) = Q3 at *
        generalize decide ((B : Int) < 245) = Q4 at *
        go_loopg [7, 8] 2 (fun g x kk wr' => InU wr s k x0 2 g x kk wr')
        case atStart => exact ⟨0, by omega, rfl, rfl, rfl, fun t h1 h2 => by omega⟩
        case round =>
          obtain ⟨j, hjg, rfl, rfl, hwe, hct⟩ := hrel
          subst hwe
          have hxs := Xv_small (s := s) (i := k) (x0 := x0) (j := j) hx0 (by omega)
          have HCT := Lib.hid hct
          clear hct
          by_cases hlt : j < 2
          · have hxn : Xv s k x0 (j + 1) = Xv s k x0 j * 64 + (s.get! (k + (j + 1))).toNat % 64 := rfl
            have HXN := Lib.hid hxn
            clear hxn
            generalize hXJ : Xv s k x0 j = X at *
            generalize hm : k + (j + 1) = m at *
            have hm1 : IntKind.i64.wrap ((k : Int) + ((j : Int) + 1)) = (m : Int) := by rw [IntKind.wrap_i64] <;> omega
            have hj2 : IntKind.i64.wrap ((j : Int) + 1 + 1) = (j : Int) + 1 + 1 := by rw [IntKind.wrap_i64] <;> omega
            have HM := Lib.hid hm
            have HXJ := Lib.hid hXJ
            have hle : (j : Int) + 1 ≤ 2 := by omega
            clear hm hXJ
            by_cases hms : m < s.size
            · have hby2 := get_is s m hms
              have hb1 : (s.get! m).toNat < 256 := UInt8.toNat_lt _
              generalize hD : (s.get! m).toNat = D at *
              have HD := Lib.hid hD
              clear hD
              have a192 : (bits BinOp.and .u8 (D : Int) 192 != 128) = !(D / 64 == 2) := and192 ⟨D, hb1⟩
              have a63 : bits BinOp.and .u8 (D : Int) 63 = ((D % 64 : Nat) : Int) := and63 ⟨D, hb1⟩
              have hwd : IntKind.i64.wrap ((D % 64 : Nat) : Int) = ((D % 64 : Nat) : Int) := by rw [IntKind.wrap_i64] <;> omega
              generalize hE : D % 64 = E at *
              have hwx : IntKind.i64.wrap ((X : Int) * 64) = (X : Int) * 64 := by rw [IntKind.wrap_i64] <;> omega
              have hwx2 : IntKind.i64.wrap ((X : Int) * 64 + (E : Int)) = (X : Int) * 64 + (E : Int) := by rw [IntKind.wrap_i64] <;> omega
              have HE := Lib.hid hE
              clear hE
              rcases hc : (D / 64 == 2) with _ | _
              · rw [hc] at a192
                go_wp2_with fail
                go_ret
                exact ⟨rfl, false, rfl, fun h => by cases h⟩
              · rw [hc] at a192
                have HC := Lib.hid hc
                clear hc
                go_wp2_with fail
                go_roundg (gk - 1)
                case measure => omega
                case rel => exact ⟨j + 1, by omega, by rw [HXN.out]; simp, by simp, rfl, fun t h1 h2 => by
                  by_cases ht : t ≤ j
                  · exact HCT.out t h1 ht
                  · obtain rfl : t = j + 1 := by omega
                    rw [HM.out, HD.out]
                    exact ⟨hms, by simpa using HC.out⟩⟩
            · go_wp2_with fail
              go_ret
              exact ⟨rfl, false, rfl, fun h => by cases h⟩
          · obtain rfl : j = 2 := by omega
            have hdc := fun h1 h2 => (show (2048 ≤ Xv s k x0 2 → (Xv s k x0 2 < 55296 ∨ 57344 ≤ Xv s k x0 2) → Utf8.decode s k = (Xv s k x0 2, 3)) from fun h1 h2 => by have := dec3 (s := s) (k := k) (by rw [HBB.out]; have := HR2.out; have := HR3.out; have := HR4.out; omega) (by rw [HBB.out]; have := HR3.out; have := HR4.out; omega) HCT.out (by rw [HBB.out, HX.out]; exact h1) (by rw [HBB.out, HX.out]; exact h2); rw [HBB.out, HX.out] at this; exact this) h1 h2
            generalize hY : Xv s k x0 2 = Y at *
            have HY := Lib.hid hY
            clear hY
            have HDC := Lib.hid hdc
            clear hdc
            have hi1 : IntKind.i64.wrap ((k : Int) + 2) = (k : Int) + 2 := by rw [IntKind.wrap_i64] <;> omega
            have hi2 : IntKind.i64.wrap ((k : Int) + 2 + 1) = (k : Int) + 2 + 1 := by rw [IntKind.wrap_i64] <;> omega
            have hkn := (HCT.out 2 (by omega) (by omega)).1
            by_cases g1 : Y < 2048
            · go_wp2_with fail
              go_ret
              exact ⟨rfl, false, rfl, fun h => by cases h⟩
            by_cases g2 : 1114111 < Y
            · go_wp2_with fail
              go_ret
              exact ⟨rfl, false, rfl, fun h => by cases h⟩
            by_cases g3 : Y < 55296
            · go_wp2_with fail
              go_roundg (s.size - (k + 2 + 1))
              case measure => omega
              case rel => exact ⟨k + 2 + 1, by simp, by omega, rfl, rfl, fun h => HV.out (Vd.step hp (by rw [HDC.out (by omega) (by omega)]; simp) (by rw [HDC.out (by omega) (by omega)]; exact h))⟩
            by_cases g4 : Y < 57344
            · go_wp2_with fail
              go_ret
              exact ⟨rfl, false, rfl, fun h => by cases h⟩
            · go_wp2_with fail
              go_roundg (s.size - (k + 2 + 1))
              case measure => omega
              case rel => exact ⟨k + 2 + 1, by simp, by omega, rfl, rfl, fun h => HV.out (Vd.step hp (by rw [HDC.out (by omega) (by omega)]; simp) (by rw [HDC.out (by omega) (by omega)]; exact h))⟩
      by_cases h5 : B < 245
      · have hx0 : B % 8 < 32 := by omega
        generalize hX : B % 8 = x0 at *
        have HX := Lib.hid hX
        clear hX
        go_wp2_with fail
        have HR1 := Lib.hid h1
        have HR2 := Lib.hid h2
        have HR3 := Lib.hid h3
        have HR4 := Lib.hid h4
        have HR5 := Lib.hid h5
        clear h4 h5
        clear h1 h2 h3
        generalize decide ((B : Int) < 128) = Q1 at *
        generalize decide ((B : Int) < 224) = Q2 at *
        generalize decide ((B : Int) < 240) = Q3 at *
        generalize decide ((B : Int) < 245) = Q4 at *
        go_loopg [7, 8] 3 (fun g x kk wr' => InU wr s k x0 3 g x kk wr')
        case atStart => exact ⟨0, by omega, rfl, rfl, rfl, fun t h1 h2 => by omega⟩
        case round =>
          obtain ⟨j, hjg, rfl, rfl, hwe, hct⟩ := hrel
          subst hwe
          have hxs := Xv_small (s := s) (i := k) (x0 := x0) (j := j) hx0 (by omega)
          have HCT := Lib.hid hct
          clear hct
          by_cases hlt : j < 3
          · have hxn : Xv s k x0 (j + 1) = Xv s k x0 j * 64 + (s.get! (k + (j + 1))).toNat % 64 := rfl
            have HXN := Lib.hid hxn
            clear hxn
            generalize hXJ : Xv s k x0 j = X at *
            generalize hm : k + (j + 1) = m at *
            have hm1 : IntKind.i64.wrap ((k : Int) + ((j : Int) + 1)) = (m : Int) := by rw [IntKind.wrap_i64] <;> omega
            have hj2 : IntKind.i64.wrap ((j : Int) + 1 + 1) = (j : Int) + 1 + 1 := by rw [IntKind.wrap_i64] <;> omega
            have HM := Lib.hid hm
            have HXJ := Lib.hid hXJ
            have hle : (j : Int) + 1 ≤ 3 := by omega
            clear hm hXJ
            by_cases hms : m < s.size
            · have hby2 := get_is s m hms
              have hb1 : (s.get! m).toNat < 256 := UInt8.toNat_lt _
              generalize hD : (s.get! m).toNat = D at *
              have HD := Lib.hid hD
              clear hD
              have a192 : (bits BinOp.and .u8 (D : Int) 192 != 128) = !(D / 64 == 2) := and192 ⟨D, hb1⟩
              have a63 : bits BinOp.and .u8 (D : Int) 63 = ((D % 64 : Nat) : Int) := and63 ⟨D, hb1⟩
              have hwd : IntKind.i64.wrap ((D % 64 : Nat) : Int) = ((D % 64 : Nat) : Int) := by rw [IntKind.wrap_i64] <;> omega
              generalize hE : D % 64 = E at *
              have hwx : IntKind.i64.wrap ((X : Int) * 64) = (X : Int) * 64 := by rw [IntKind.wrap_i64] <;> omega
              have hwx2 : IntKind.i64.wrap ((X : Int) * 64 + (E : Int)) = (X : Int) * 64 + (E : Int) := by rw [IntKind.wrap_i64] <;> omega
              have HE := Lib.hid hE
              clear hE
              rcases hc : (D / 64 == 2) with _ | _
              · rw [hc] at a192
                go_wp2_with fail
                go_ret
                exact ⟨rfl, false, rfl, fun h => by cases h⟩
              · rw [hc] at a192
                have HC := Lib.hid hc
                clear hc
                go_wp2_with fail
                go_roundg (gk - 1)
                case measure => omega
                case rel => exact ⟨j + 1, by omega, by rw [HXN.out]; simp, by simp, rfl, fun t h1 h2 => by
                  by_cases ht : t ≤ j
                  · exact HCT.out t h1 ht
                  · obtain rfl : t = j + 1 := by omega
                    rw [HM.out, HD.out]
                    exact ⟨hms, by simpa using HC.out⟩⟩
            · go_wp2_with fail
              go_ret
              exact ⟨rfl, false, rfl, fun h => by cases h⟩
          · obtain rfl : j = 3 := by omega
            have hdc := fun h1 h2 => (show (65536 ≤ Xv s k x0 3 → Xv s k x0 3 ≤ 1114111 → Utf8.decode s k = (Xv s k x0 3, 4)) from fun h1 h2 => by have := dec4 (s := s) (k := k) (by rw [HBB.out]; have := HR2.out; have := HR3.out; have := HR4.out; have := HR5.out; omega) (by rw [HBB.out]; have := HR3.out; have := HR4.out; have := HR5.out; omega) HCT.out (by rw [HBB.out, HX.out]; exact h1) (by rw [HBB.out, HX.out]; exact h2); rw [HBB.out, HX.out] at this; exact this) h1 h2
            generalize hY : Xv s k x0 3 = Y at *
            have HY := Lib.hid hY
            clear hY
            have HDC := Lib.hid hdc
            clear hdc
            have hi1 : IntKind.i64.wrap ((k : Int) + 3) = (k : Int) + 3 := by rw [IntKind.wrap_i64] <;> omega
            have hi2 : IntKind.i64.wrap ((k : Int) + 3 + 1) = (k : Int) + 3 + 1 := by rw [IntKind.wrap_i64] <;> omega
            have hkn := (HCT.out 3 (by omega) (by omega)).1
            by_cases g1 : Y < 65536
            · go_wp2_with fail
              go_ret
              exact ⟨rfl, false, rfl, fun h => by cases h⟩
            by_cases g2 : 1114111 < Y
            · go_wp2_with fail
              go_ret
              exact ⟨rfl, false, rfl, fun h => by cases h⟩
            by_cases g3 : Y < 55296
            · exfalso; omega
            by_cases g4 : Y < 57344
            · exfalso; omega
            · go_wp2_with fail
              go_roundg (s.size - (k + 3 + 1))
              case measure => omega
              case rel => exact ⟨k + 3 + 1, by simp, by omega, rfl, rfl, fun h => HV.out (Vd.step hp (by rw [HDC.out (by omega) (by omega)]; simp) (by rw [HDC.out (by omega) (by omega)]; exact h))⟩
      · go_wp2_with fail
        go_ret
        exact ⟨rfl, false, rfl, fun h => by cases h⟩
    · go_wp2_with fail
      go_ret
      exact ⟨rfl, true, rfl, fun _ => HV.out (Vd.end_ s k (by omega))⟩

end Go.Proofs.YtjojhlkbcjhonaaDoor.Rx
