/- Layer 5's laws: what is known of fixed calls; of what there is not. -/
import Derived.Test.YtjojhlkbcjhonaaDoorRxMt
namespace Go.Proofs.YtjojhlkbcjhonaaDoor.Rx
open Go.RowKit Go.Sort

theorem compileP_ok {s : ByteArray} {r : Re} (h : compileP s = .ok r) : s.size ≤ 256 ∧ wholeP s = .ok r ∧ Re.cnt r ≤ 2000 := by
  unfold compileP at h
  by_cases hs : 256 < s.size
  · rw [if_pos hs] at h; injection h
  rw [if_neg hs] at h
  split at h
  · injection h
  · rename_i p hp
    split at h
    · injection h
    · injection h with h
      subst h
      exact ⟨by omega, hp, by omega⟩

theorem compileP_wf {s : ByteArray} {r : Re} (h : compileP s = .ok r) : Re.WF r := (wholeP_bd (compileP_ok h).1 (compileP_ok h).2.1).1

theorem compileP_er {s : ByteArray} {e : PErr} (h : compileP s = .error e) : e.1 ≠ 0 := by
  unfold compileP at h
  split at h
  · injection h with h; subst h; simp
  split at h
  · rename_i e' he
    injection h with h; subst h
    exact wholeP_er he
  · split at h
    · injection h with h; subst h; simp
    · injection h

theorem match_nil (w : World) (s : ByteArray) : Calls Tryd.prog 12 #[.pointer none, .string s] w (fun e w' => e = .returned (.bool false) ∧ w' = w) := by
  go_enter Tryd.func12, Tryd.ntmps12
  go_wp2_with fail
  go_ret
  exact ⟨rfl, rfl⟩

theorem states_nil (w : World) : Calls Tryd.prog 20 #[.pointer none] w (fun e w' => e = .returned (.int .i64 0) ∧ w' = w) := by
  go_enter Tryd.func20, Tryd.ntmps20
  go_wp2_with fail
  go_ret
  exact ⟨rfl, rfl⟩

theorem literal_nil (w : World) : Calls Tryd.prog 19 #[.pointer none] w (fun e w' => e = .returned (.tuple #[.string ⟨#[]⟩, .bool false]) ∧ w' = w) := by
  go_enter Tryd.func19, Tryd.ntmps19
  go_wp2_with fail
  go_ret2
  exact ⟨rfl, rfl⟩

theorem prefix_nil (w : World) : Calls Tryd.prog 17 #[.pointer none] w (fun e w' => e = .returned (.string ⟨#[]⟩) ∧ w' = w) := by
  go_enter Tryd.func17, Tryd.ntmps17
  go_wp2_with fail
  go_ret
  exact ⟨rfl, rfl⟩

/-- Whether an expression is compiled and matches. -/
def MatchesP (e s : ByteArray) : Prop := ∃ r, compileP e = .ok r ∧ Re.L r (rnAt s 0)

theorem matches_any (w : World) (x s : ByteArray) (hT : Lib.Utf8Tabs 0 1 w) (h2 : 2 ≤ w.heap.size) (hlen : ∀ r, compileP x = .ok r → r.graph.2.length ≤ 1000000) :
    Calls Tryd.prog 16 #[.string x, .string s] w (fun e w' => Below w.heap.size w w' ∧ ∃ b : Bool, e = .returned (.bool b) ∧ (b = true ↔ MatchesP x s)) := by
  have HC := Lib.hid (compile_any w x hT h2 hlen)
  have HLEN := Lib.hid hlen
  clear hT hlen
  go_enter Tryd.func16, Tryd.ntmps16
  go_wp2_with fail
  refine HC.out.mono ?_
  rintro e w1 hr
  rcases hx : compileP x with ⟨en, pl⟩ | r
  · rw [hx] at hr
    obtain ⟨rfl, hb⟩ := hr
    have hen := compileP_er hx
    have hne : (en == 0) = false := by simpa using hen
    have HX := Lib.hid hx
    have HB := Lib.hid hb
    clear hx hb hen HC HLEN
    go_wp2_with fail
    go_ret
    exact ⟨HB.out, false, rfl, ⟨fun h => (by cases h), fun ⟨r, h, _⟩ => (by rw [HX.out] at h; cases h)⟩⟩
  · rw [hx] at hr
    obtain ⟨rb, c, K, C, v, ns, rfl, hR, hrb, hK, hb⟩ := hr
    have HX := Lib.hid hx
    have HB := Lib.hid hb
    have HR := Lib.hid hR
    clear hx hb hR hK HC
    go_wp2_with fail
    refine (match_any w1 rb r c K C v ns HR.out (compileP_wf HX.out) s (HLEN.out r HX.out)).mono ?_
    rintro e w2 ⟨hb2, b, rfl, hbl⟩
    have HB2 := Lib.hid hb2
    have HBL := Lib.hid hbl
    clear hb2 hbl
    go_wp2_with fail
    go_ret
    refine ⟨HB.out.trans (HB2.out.mono HB.out.size), b, rfl, HBL.out.trans ⟨fun h => ⟨r, HX.out, h⟩, fun ⟨q, hq, h⟩ => ?_⟩⟩
    rw [HX.out] at hq
    cases hq
    exact h

def bsA : ByteArray := ⟨#[97, 42, 42]⟩
def bsB : ByteArray := ⟨#[97, 40, 98, 124, 99, 41, 42, 100]⟩
def reB : Re := .row [.one (fun x => x == 97) (some 97), .loop (.fork (.row [.one (fun x => x == 98) (some 98)]) (.row [.one (fun x => x == 99) (some 99)])) 0 (-1) false, .one (fun x => x == 100) (some 100)]

theorem compA : compileP bsA = .error (50, 2) := by rfl
theorem compB : compileP bsB = .ok reB := by rfl

end Go.Proofs.YtjojhlkbcjhonaaDoor.Rx
