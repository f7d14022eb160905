/- Layer 5's laws: the fixed calls; RegexNil. -/
import Derived.Test.YtjojhlkbcjhonaaDoorRxLa
namespace Go.Proofs.YtjojhlkbcjhonaaDoor.Rx
open Go.RowKit Go.Sort

theorem lenB : ∀ r, compileP bsB = .ok r → r.graph.2.length ≤ 1000000 := by
  intro r h
  rw [compB] at h
  cases h
  have e : reB.graph.2.length = 7 := by rfl
  omega

def tx1 : ByteArray := ⟨#[97, 98, 99, 99, 98, 100]⟩
def tx2 : ByteArray := ⟨#[97, 98, 101]⟩
theorem rn1 : rnAt tx1 0 = [97, 98, 99, 99, 98, 100] := by rfl
theorem rn2 : rnAt tx2 0 = [97, 98, 101] := by rfl

theorem yes1 : MatchesP bsB tx1 := by
  refine ⟨reB, compB, ?_⟩
  rw [rn1]
  have b : Re.L (.fork (.row [.one (fun x => x == 98) (some 98)]) (.row [.one (fun x => x == 99) (some 99)])) [98] := .inl ⟨[98], [], rfl, ⟨98, rfl, rfl⟩, rfl⟩
  have c : Re.L (.fork (.row [.one (fun x => x == 98) (some 98)]) (.row [.one (fun x => x == 99) (some 99)])) [99] := .inr ⟨[99], [], rfl, ⟨99, rfl, rfl⟩, rfl⟩
  exact ⟨[97], [98, 99, 99, 98, 100], rfl, ⟨97, rfl, rfl⟩, [98, 99, 99, 98], [100], rfl, ⟨4, by decide, .inl (by decide), [98], [99, 99, 98], rfl, b, [99], [99, 98], rfl, c, [99], [98], rfl, c, [98], [], rfl, b, rfl⟩, [100], [], rfl, ⟨100, rfl, rfl⟩, rfl⟩

theorem no2 : ¬ MatchesP bsB tx2 := by
  rintro ⟨r, hr, h⟩
  rw [compB] at hr
  cases hr
  rw [rn2] at h
  obtain ⟨u1, u2, e1, _, v1, v2, e2, _, z1, z2, e3, ⟨c, e4, hc⟩, e5⟩ := h
  have hz : z2 = [] := e5
  have hc' : c = 100 := by simpa using hc
  subst hz e4 hc' e3 e2
  have := congrArg List.getLast? e1
  simp at this

set_option maxHeartbeats 1000000 in
theorem known_any (w : World) (hT : Lib.Utf8Tabs 0 1 w) (h2 : 2 ≤ w.heap.size) :
    Calls Tryd.prog 11 #[] w (fun e w' => e = .returned (.bool true) ∧ Below w.heap.size w w') := by
  have HC := Lib.hid (compile_any w bsA hT h2 (fun r h => by rw [compA] at h; cases h))
  have HT := Lib.hid hT
  clear hT
  go_enter Tryd.func11, Tryd.ntmps11
  go_wp2_with fail
  refine HC.out.mono ?_
  rintro e w1 hr
  rw [compA] at hr
  obtain ⟨rfl, hb⟩ := hr
  have HB := Lib.hid hb
  clear hb HC
  go_wp2_with fail
  refine (matches_any w1 bsB tx1 (Utf8Tabs_below HT.out HB.out) (by have := HB.out.size; omega) lenB).mono ?_
  rintro e w2 ⟨hb2, b, rfl, hbl⟩
  obtain rfl : b = true := hbl.2 yes1
  have HB2 := Lib.hid (HB.out.trans (hb2.mono HB.out.size))
  clear hb2 hbl
  go_wp2_with fail
  refine (matches_any w2 bsB tx2 (Utf8Tabs_below HT.out HB2.out) (by have := HB2.out.size; omega) lenB).mono ?_
  rintro e w3 ⟨hb3, b, rfl, hbl⟩
  obtain rfl : b = false := by
    cases b with
    | false => rfl
    | true => exact (no2 (hbl.1 rfl)).elim
  have HB3 := Lib.hid (HB2.out.trans (hb3.mono HB2.out.size))
  clear hb3 hbl
  go_wp2_with fail
  go_ret
  exact ⟨rfl, HB3.out⟩

theorem law_nil (w : World) (s : ByteArray) (hT : Lib.Utf8Tabs 0 1 w) (h2 : 2 ≤ w.heap.size) :
    Calls Tryd.prog 7 #[.string s] w (fun e w' => e = .returned (.bool true) ∧ Below w.heap.size w w') := by
  have HK := Lib.hid (known_any w hT h2)
  clear hT h2
  go_enter Tryd.func7, Tryd.ntmps7
  go_wp2_with fail
  refine (literal_nil w).mono ?_
  rintro e w1 ⟨rfl, rfl⟩
  go_wp2_with fail
  refine (match_nil _ s).mono ?_
  rintro e w2 ⟨rfl, rfl⟩
  go_wp2_with fail
  refine (states_nil _).mono ?_
  rintro e w3 ⟨rfl, rfl⟩
  go_wp2_with fail
  refine (prefix_nil _).mono ?_
  rintro e w4 ⟨rfl, rfl⟩
  go_wp2_with fail
  refine HK.out.mono ?_
  rintro e w5 ⟨rfl, hb⟩
  have HB := Lib.hid hb
  clear hb HK
  go_wp2_with fail
  go_ret
  exact ⟨rfl, HB.out⟩

end Go.Proofs.YtjojhlkbcjhonaaDoor.Rx
