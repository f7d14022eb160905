/- Layer 23's law InhibitNil: what is known of fixed calls. -/
import Derived.Test.YtjojhlkbcjhonaaDoorIhN
namespace Go.Proofs.YtjojhlkbcjhonaaDoor.Ih
open Go.RowKit

abbrev bC : ByteArray := ⟨#[99]⟩
abbrev bS : ByteArray := ⟨#[115]⟩
abbrev bA : ByteArray := ⟨#[97]⟩
abbrev bB : ByteArray := ⟨#[98]⟩
abbrev bCrit : ByteArray := ⟨#[99, 114, 105, 116, 105, 99, 97, 108]⟩
abbrev bWarn : ByteArray := ⟨#[119, 97, 114, 110, 105, 110, 103]⟩
abbrev matS : Mat := ⟨1, bS, bCrit⟩
abbrev matT : Mat := ⟨1, bS, bWarn⟩

theorem inh_ok : InhOk matS matT bC where
  s := ⟨by decide, by decide, by decide +kernel, by decide +kernel, by decide +kernel, by decide +kernel⟩
  t := ⟨by decide, by decide, by decide +kernel, by decide +kernel, by decide +kernel, by decide +kernel⟩
  n := by decide +kernel
  l := by decide +kernel

abbrev setL (c s : ByteArray) : List Lab := [(bC, c), (bS, s)]

theorem nm_c : namedB bC 64 false = true := by decide +kernel
theorem nm_s : namedB bS 64 false = true := by decide +kernel

theorem lab_ok {c s : ByteArray} (hc : ValueOk c) (hs : ValueOk s) : LabsOk (setL c s) where
  len := by simp
  ok := by
    intro x hx
    simp only [List.mem_cons, List.not_mem_nil, or_false] at hx
    rcases hx with rfl | rfl
    · exact ⟨nm_c, by show bC.size ≤ 64; decide, hc⟩
    · exact ⟨nm_s, by show bS.size ≤ 64; decide, hs⟩
  so := by
    intro i x y h1 h2
    match i with
    | 0 =>
      simp at h1 h2
      subst h1 h2
      exact ⟨by show Op.bytesLess bS.toList bC.toList = false; decide +kernel, by show (bS.toList == bC.toList) = false; decide +kernel⟩
    | 1 => simp at h2
    | (n + 2) => simp at h1

theorem v_a : ValueOk bA := ⟨by decide +kernel, by decide +kernel, by decide +kernel⟩
theorem v_b : ValueOk bB := ⟨by decide +kernel, by decide +kernel, by decide +kernel⟩
theorem v_crit : ValueOk bCrit := ⟨by decide +kernel, by decide +kernel, by decide +kernel⟩
theorem v_warn : ValueOk bWarn := ⟨by decide +kernel, by decide +kernel, by decide +kernel⟩

theorem holds_1 : holdsB matS matT bC (setL bB bCrit) (setL bA bWarn) = false := by decide +kernel
theorem holds_2 : holdsB matS matT bC (setL bA bCrit) (setL bA bWarn) = true := by decide +kernel

theorem mat_one {w : World} {b : Nat} {m : Mat} (h0 : w.cell? ⟨b, 0, none⟩ = some (.int .i64 m.op)) (h1 : w.cell? ⟨b, 1, none⟩ = some (.string m.n)) (h2 : w.cell? ⟨b, 2, none⟩ = some (.string m.v)) : MatAt w b 0 [m] := by
  intro i x hx
  match i with
  | 0 =>
    simp at hx
    subst hx
    simpa using ⟨h0, h1, h2⟩
  | (n + 1) => simp at hx

theorem lab_two {w : World} {b : Nat} {x y : Lab} (h0 : w.cell? ⟨b, 0, none⟩ = some (.string x.1)) (h1 : w.cell? ⟨b, 1, none⟩ = some (.string x.2)) (h2 : w.cell? ⟨b, 2, none⟩ = some (.string y.1)) (h3 : w.cell? ⟨b, 3, none⟩ = some (.string y.2)) : LabAt w b 0 [x, y] := by
  intro i z hz
  match i with
  | 0 =>
    simp at hz
    subst hz
    simpa using ⟨h0, h1⟩
  | 1 =>
    simp at hz
    subst hz
    simpa using ⟨h2, h3⟩
  | (n + 2) => simp at hz

theorem some_any (w : World) :
    Calls Tryd.prog 38 #[] w (fun e w' => ∃ ib ic p, e = .returned (.slice (some ⟨ib, 0, none⟩) 1 ic) ∧ Below w.heap.size w w' ∧ InhAt w' p matS matT bC ∧ w'.cell? ⟨ib, 0, none⟩ = some p.vs ∧ w'.cell? ⟨ib, 0 + 1, none⟩ = some p.vt ∧ w'.cell? ⟨ib, 0 + 2, none⟩ = some p.ve ∧ ib < w'.heap.size) := by
  go_enter Tryd.func38, Tryd.ntmps38
  go_wp2_with fail
  go_ret
  refine ⟨_, _, ⟨w.heap.size, 0, 1, w.heap.size + 1, 0, 1, w.heap.size + 1 + 1, 0, 1⟩, rfl, ((((Below.refl _ _).alloc (Nat.le_refl _) _).alloc (by simp) _).alloc (by simp; omega) _).alloc (by simp; omega) _, ⟨mat_one ?_ ?_ ?_, mat_one ?_ ?_ ?_, ?_, ?_, ?_, ?_⟩, ?_, ?_, ?_, ?_⟩
  all_goals (try simp [go_sem])
  all_goals (try omega)

theorem set_any (w : World) (c s : ByteArray) :
    Calls Tryd.prog 39 #[.string c, .string s] w (fun e w' => ∃ p : LabP, e = .returned p.v ∧ Below w.heap.size w w' ∧ p.l = setL c s ∧ LabAt w' p.b p.o p.l ∧ w.heap.size ≤ p.b ∧ p.b < w'.heap.size) := by
  go_enter Tryd.func39, Tryd.ntmps39
  go_wp2_with fail
  go_ret
  refine ⟨⟨w.heap.size, 0, 2, setL c s⟩, rfl, (Below.refl _ _).alloc (Nat.le_refl _) _, rfl, lab_two ?_ ?_ ?_ ?_, Nat.le_refl _, ?_⟩
  all_goals simp [go_sem]

end Go.Proofs.YtjojhlkbcjhonaaDoor.Ih
