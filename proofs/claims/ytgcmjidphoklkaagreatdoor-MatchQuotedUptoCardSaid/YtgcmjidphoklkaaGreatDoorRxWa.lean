/- Walks over layer 5's reader: the small functions on runes. -/
import Derived.Test.YtgcmjidphoklkaaGreatDoorRxP1
import Derived.Test.YtgcmjidphoklkaaGreatDoorProg
import Derived.WalkKit
import Derived.WalkSpells
import Derived.WalkLawsBesides
import Derived.Deep.QuietTactic
import Derived.BigQuiet
namespace Go.Proofs.YtgcmjidphoklkaaGreatDoor.Rx
open Go.RowKit

theorem ret_bool {a b : Bool} (h : a = b) : Ending.returned (.bool a) = .returned (.bool b) := by rw [h]

set_option maxHeartbeats 400000 in
theorem digit_any (c : Int) (w : World) : Calls Tryz.prog 102 #[.int .i32 c] w fun e w' => e = .returned (.bool (digitP c)) ∧ w = w' := by
  go_enter Tryz.func102, Tryz.ntmps102
  go_wp2
  · have h : 48 ≤ c := by assumption
    go_ret
    exact ⟨ret_bool (by simp [digitP, h]), rfl⟩
  · have h : c < 48 := by assumption
    go_ret
    exact ⟨ret_bool (by simp [digitP]; omega), rfl⟩

set_option maxHeartbeats 400000 in
theorem letter_any (c : Int) (w : World) : Calls Tryz.prog 103 #[.int .i32 c] w fun e w' => e = .returned (.bool (letterP c)) ∧ w = w' := by
  cases hd : digitP c
  · go_enter Tryz.func103, Tryz.ntmps103
    go_wp2_with (go_at_call 102; refine (digit_any _ _).mono ?_; rintro e w' ⟨rfl, rfl⟩)
    all_goals go_ret
    all_goals refine ⟨ret_bool ?_, rfl⟩
    all_goals rw [Bool.eq_iff_iff]
    all_goals simp [letterP, hd]
    all_goals omega
  · go_enter Tryz.func103, Tryz.ntmps103
    go_wp2_with (go_at_call 102; refine (digit_any _ _).mono ?_; rintro e w' ⟨rfl, rfl⟩)
    go_ret
    exact ⟨ret_bool (by simp [letterP, hd]), rfl⟩

set_option maxHeartbeats 400000 in
theorem space_any (c : Int) (w : World) : Calls Tryz.prog 104 #[.int .i32 c] w fun e w' => e = .returned (.bool (spaceP c)) ∧ w = w' := by
  go_enter Tryz.func104, Tryz.ntmps104
  go_wp2
  all_goals go_ret
  all_goals refine ⟨ret_bool ?_, rfl⟩
  all_goals simp [spaceP, *]

set_option maxHeartbeats 400000 in
theorem sign_any (c : Int) (w : World) : Calls Tryz.prog 10 #[.int .i32 c] w fun e w' => e = .returned (.bool (signP c)) ∧ w = w' := by
  go_enter Tryz.func10, Tryz.ntmps10
  go_wp2
  all_goals go_ret
  all_goals refine ⟨ret_bool ?_, rfl⟩
  all_goals simp [signP, *]

end Go.Proofs.YtgcmjidphoklkaaGreatDoor.Rx
