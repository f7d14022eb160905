/- Walks over layer 4's names. -/
import Derived.Test.YteemciknbiloiaaGreatDoorIhZ
import Derived.Lib.ConvBytes
namespace Go.Proofs.YteemciknbiloiaaGreatDoor.Ih
open Go.RowKit

def letterB (c : Int) : Bool := (decide (97 ≤ c) && decide (c ≤ 122)) || (decide (65 ≤ c) && decide (c ≤ 90)) || c == 95
def digitB (c : Int) : Bool := decide (48 ≤ c) && decide (c ≤ 57)
def partB (colon : Bool) (c : Int) : Bool := letterB c || digitB c || (colon && c == 58)
def namedB (s : ByteArray) (most : Nat) (colon : Bool) : Bool :=
  decide (0 < s.size) && decide (s.size ≤ most) && !digitB (s.get! 0).toNat && s.data.toList.all (fun c => partB colon c.toNat)

theorem digit_any (w : World) (c : Int) : Calls Tryz.prog 46 #[.int .u8 c] w (fun e w' => e = .returned (.bool (digitB c)) ∧ w' = w) := by
  go_enter Tryz.func46, Tryz.ntmps46
  go_wp2_with fail
  all_goals
    go_ret
    refine ⟨?_, rfl⟩
    refine congrArg Ending.returned (congrArg Value.bool ?_)
    rw [Bool.eq_iff_iff]
    simp [digitB]
    try omega

theorem letter_any (w : World) (c : Int) : Calls Tryz.prog 47 #[.int .u8 c] w (fun e w' => e = .returned (.bool (letterB c)) ∧ w' = w) := by
  go_enter Tryz.func47, Tryz.ntmps47
  go_wp2_with fail
  all_goals
    go_ret
    refine ⟨?_, rfl⟩
    refine congrArg Ending.returned (congrArg Value.bool ?_)
    rw [Bool.eq_iff_iff]
    simp [letterB]
    try omega

theorem below_bytes (w : World) (e : TypeId) (s : ByteArray) : Below w.heap.size w (Lib.bytesWorld w e s) :=
  ⟨rfl, rfl, rfl, by rw [Lib.bytesWorld_size]; omega, fun k hk => Lib.bytesWorld_at_old w e s k hk⟩

theorem all_take_succ {l : List UInt8} {p : UInt8 → Bool} {k : Nat} (h : (l.take k).all p = true) (hk : k < l.length) : (l.take (k + 1)).all p = p (l.getD k 0) := by
  rw [List.take_add_one, List.all_append, h]
  simp [List.getElem?_eq_getElem hk]

theorem all_of_take {l : List UInt8} {p : UInt8 → Bool} {k : Nat} (h : (l.take k).all p = false) : l.all p = false := by
  cases h2 : l.all p with
  | false => rfl
  | true =>
    rw [← h]
    symm
    rw [List.all_eq_true] at h2 ⊢
    exact fun x hx => h2 x (List.mem_of_mem_take hx)

set_option maxRecDepth 100000 in
theorem named_any (w : World) (s : ByteArray) (most : Nat) (colon : Bool) (hs : s.size ≤ 140737488355328) :
    Calls Tryz.prog 34 #[.string s, .int .i64 most, .bool colon] w (fun e w' => e = .returned (.bool (namedB s most colon)) ∧ Below w.heap.size w w') := by
  obtain ⟨ans, hans⟩ : ∃ a, namedB s most colon = a := ⟨_, rfl⟩
  rw [hans]
  go_enter Tryz.func34, Tryz.ntmps34
  by_cases h0 : s.size = 0
  · have htl : s.toList = [] := by
      rw [Lib.toList_data]
      exact List.length_eq_zero_iff.1 (by rw [← Lib.size_eq]; exact h0)
    have hres : namedB s most colon = false := by simp [namedB, h0]
    rw [hans] at hres; subst hres
    go_wp2_with fail
    go_ret
    exact ⟨rfl, Below.refl _ _⟩
  have htl : ¬ s.toList = [] := by
    rw [Lib.toList_data]
    intro h
    apply h0
    rw [Lib.size_eq, h]; rfl
  have h0p : 0 < s.size := by omega
  by_cases hm : s.size ≤ most
  · have hg : s[0]'h0p = s.get! 0 := (Utf8W.get!_of_lt s 0 h0p).symm
    obtain ⟨x, hx⟩ : ∃ x, s.get! 0 = x := ⟨_, rfl⟩
    rw [hx] at hg
    obtain ⟨c, hc⟩ : ∃ c : Int, (x.toNat : Int) = c := ⟨_, rfl⟩
    have hie : s.toList.isEmpty = false := by rw [List.isEmpty_eq_false_iff]; exact htl
    have hm2 : ¬ most < s.size := by omega
    obtain ⟨d, hd⟩ : ∃ d, digitB c = d := ⟨_, rfl⟩
    go_wp2_with fail
    refine (digit_any w _).mono ?_
    rintro e w1 ⟨rfl, rfl⟩
    rw [hd]
    cases d with
    | true =>
      have hres : namedB s most colon = false := by simp [namedB, hx, hc, hd]
      rw [hans] at hres; subst hres
      go_wp2_with fail
      go_ret
      exact ⟨rfl, Below.refl _ _⟩
    | false =>
      have hres : namedB s most colon = s.data.toList.all (fun c => partB colon c.toNat) := by simp [namedB, hx, hc, hd, h0p, hm]
      have hAns : s.data.toList.all (fun c => partB colon c.toNat) = ans := by rw [← hans, hres]
      have HANS := Lib.hid hAns
      clear hres hAns hans
      have hcv := Lib.run_convert_string_bytes (P := Tryz.prog) w1 9 80 5 s (u := .string) Tryz.underlying9 Tryz.underlying80 Tryz.underlying5
      have hW : Hid (∀ W, W = Lib.bytesWorld w1 5 s → Below w1.heap.size w1 W ∧ (∀ j, j < s.size → W.cell? ⟨w1.heap.size, j, none⟩ = some (.int .u8 (s.data.toList.getD j 0).toNat))) := by
        rintro W rfl
        exact ⟨below_bytes _ _ _, fun j hj => Lib.bytesWorld_cell _ _ _ j hj⟩
      go_wp2_with fail
      clear hcv
      generalize hWe : Lib.bytesWorld w1 5 s = W at *
      obtain ⟨hbW, hcell⟩ := hW.out W rfl
      clear hW hWe
      have HB := Lib.hid hbW
      have HC := Lib.hid hcell
      have hsl := Lib.size_eq s
      have HSL := Lib.hid hsl
      clear hbW hcell hsl
      generalize grownCap w1 s.size 0 5 = cap
      go_loopg [25] s.size (fun g i wr => ∃ k, k + g = s.size ∧ i = .int .i64 k ∧ wr = W ∧ (s.data.toList.take k).all (fun c => partB colon c.toNat) = true)
      case atStart => exact ⟨0, by omega, rfl, rfl, by simp⟩
      case round =>
        obtain ⟨k, hkg, rfl, rfl, hall⟩ := hrel
        have HALL := Lib.hid hall
        clear hall
        by_cases hlt : k < s.size
        · have hck := HC.out k hlt
          obtain ⟨y, hy⟩ : ∃ y, s.data.toList.getD k 0 = y := ⟨_, rfl⟩
          have hst := all_take_succ HALL.out (by rw [← HSL.out]; exact hlt)
          rw [hy] at hck hst
          have HST := Lib.hid hst
          obtain ⟨z, hz⟩ : ∃ z : Int, (y.toNat : Int) = z := ⟨_, rfl⟩
          rw [hz] at hck
          have hw1 : IntKind.i64.wrap ((k : Int) + 1) = (k : Int) + 1 := by rw [IntKind.wrap_i64] <;> omega
          clear hst hy
          rw [hz] at HST
          clear hz
          obtain ⟨lb, hlb⟩ : ∃ lb, letterB z = lb := ⟨_, rfl⟩
          obtain ⟨db, hdb⟩ : ∃ db, digitB z = db := ⟨_, rfl⟩
          have hpart : partB colon z = (lb || db || (colon && z == 58)) := by unfold partB; rw [hlb, hdb]
          have HP := Lib.hid hpart
          clear hpart
          go_wp2_with fail
          refine (letter_any wr z).mono ?_
          rintro e w2 ⟨rfl, rfl⟩
          rw [hlb]
          cases lb with
          | true =>
            go_wp2_with fail
            go_roundg (gk - 1)
            case measure => omega
            case rel => exact ⟨k + 1, by omega, by simp, rfl, by rw [HST.out, HP.out]; rfl⟩
          | false =>
            go_wp2_with fail
            refine (digit_any w2 z).mono ?_
            rintro e w3 ⟨rfl, rfl⟩
            rw [hdb]
            cases db with
            | true =>
              go_wp2_with fail
              go_roundg (gk - 1)
              case measure => omega
              case rel => exact ⟨k + 1, by omega, by simp, rfl, by rw [HST.out, HP.out]; rfl⟩
            | false =>
              have hans : (colon && z == 58) = false → ans = false := fun h => by
                rw [← HANS.out]
                exact all_of_take (by rw [HST.out, HP.out, h]; rfl)
              have HANS2 := Lib.hid hans
              clear hans
              cases colon with
              | false =>
                obtain rfl : ans = false := HANS2.out rfl
                go_wp2_with fail
                go_ret
                exact ⟨rfl, HB.out⟩
              | true =>
                by_cases hz58 : z = 58
                · subst hz58
                  go_wp2_with fail
                  go_roundg (gk - 1)
                  case measure => omega
                  case rel => exact ⟨k + 1, by omega, by simp, rfl, by rw [HST.out, HP.out]; rfl⟩
                · obtain rfl : ans = false := HANS2.out (by simp [hz58])
                  have hz2 : (z == 58) = false := by simp [hz58]
                  go_wp2_with fail
                  go_ret
                  exact ⟨rfl, HB.out⟩
        · obtain rfl : gk = 0 := by omega
          have htk : s.data.toList.take k = s.data.toList := List.take_of_length_le (by rw [← HSL.out]; omega)
          have hall2 := HALL.out
          rw [htk] at hall2
          rw [HANS.out] at hall2
          subst hall2
          go_wp2_with fail
          go_ret
          exact ⟨rfl, HB.out⟩
  · have hres : namedB s most colon = false := by simp [namedB, hm]
    rw [hans] at hres; subst hres
    go_wp2_with fail
    go_ret
    exact ⟨rfl, Below.refl _ _⟩

end Go.Proofs.YteemciknbiloiaaGreatDoor.Ih
