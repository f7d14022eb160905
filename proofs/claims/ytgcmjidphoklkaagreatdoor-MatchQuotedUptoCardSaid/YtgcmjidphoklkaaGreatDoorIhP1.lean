/- What the walks lean on: worlds, blocks; the two tables of unicode/utf8; a world for the witness. -/
import Derived.Test.YtgcmjidphoklkaaGreatDoorCards
import Derived.Test.YtgcmjidphoklkaaGreatDoorTie
import Derived.Test.YtgcmjidphoklkaaGreatDoorShelf
import Derived.WalkKit
import Derived.WalkSpells
import Derived.WalkLawsBesides
import Derived.Deep.QuietTactic
import Derived.BigQuiet
import Derived.BigRegion
import Derived.Deep.LoopGhost
import Derived.Deep.DeepMust
import Derived.Deep.CutBlock
import Derived.Deep.DeepCutAuto
import Derived.Lib.Hide
import Derived.Defers
import Derived.Recover
import Derived.StillTactics
import Derived.Maps.AppendAt
import Derived.Laws.EntriesVeiled
import Derived.ProofKit
import Derived.OpenShut
import Derived.SizedLaws
import Derived.SevenTiedAt
import Derived.Deep.DeepHandedRow
import Derived.Deep.DeepWitnessRowRef
import Derived.Lib.LaidIn
import Derived.Lib.LaidU8
import Derived.Lib.ConvBytes
import Derived.Test.YtgcmjidphoklkaaGreatDoorShelfV
namespace Go.Proofs.YtgcmjidphoklkaaGreatDoor.Ih
open Go.ChangeShapes Go.WideShapes Go.ChangeAt Go.RowKit Go.Lib Go.Shelf

theorem run_store_one (P : Program) (w : World) (a : Addr) (m : Mode) (v : Value) (hv : v.oneCell' = true) : (store a v m).run P w = stored P w a v m := run_store P w a v m hv
theorem setCell_size (w : World) (a : Addr) (v : Value) : (w.setCell a v).heap.size = w.heap.size := by simp [World.setCell]
theorem setCell_block_ne (w : World) (a : Addr) (v : Value) (k : Nat) (h : k ≠ a.block) : (w.setCell a v).heap[k]? = w.heap[k]? := Below.heap_setCell w a v k h
theorem cell?_setCell_at {w : World} {a : Addr} {x v : Value} (h : w.cell? a = some x) : (w.setCell a v).cell? a = some v := World.cell?_setCell_same _ _ _ h

theorem own : ownKnob Tryz.prog.godebug = none := by kernel_rfl
theorem firstIs : (Rows.laid_unicode_utf8_first : DataW Unit) = Lib.firstData := by kernel_rfl
theorem acceptIs : (Rows.laid_unicode_utf8_acceptRanges : DataW Unit) = Lib.acceptData := by kernel_rfl

/-- A world for the witness: the settled one, the two tables holding what their initialisers lay. -/
noncomputable def laidWorld (os : Os) : World :=
  let w0 := World.holding Tryz.prog os ⟨#[], #[], []⟩
  let put (h : Array Obj) (g : Nat) (cs : Array Value) : Array Obj := h.modify g fun
    | .cells _ t frozen => .cells cs t frozen
    | o => o
  let h1 := put w0.heap 0 (Lib.firstTab.map fun z => Value.int .u8 z).toArray
  let h2 := put h1 1 ((List.range 16).flatMap fun i => [Value.int .u8 (Lib.accLo i), Value.int .u8 (Lib.accHi i)]).toArray
  { w0 with heap := h2 }

/-- The tables, out of what the row lists. -/
theorem tabs_of {W : World} (hL : laidMet Tryz.prog [("unicode/utf8.acceptRanges", Rows.laid_unicode_utf8_acceptRanges), ("unicode/utf8.first", Rows.laid_unicode_utf8_first)] W) : Lib.Utf8Tabs 0 1 W := by
  rw [firstIs, acceptIs] at hL
  exact utf8Tabs_of_reads Tryz.lays260 ⟨by kernel_rfl, by kernel_rfl, by kernel_rfl, by kernel_rfl, by kernel_rfl, by kernel_rfl, by kernel_rfl⟩ (Lib.laidMet.reads hL (.tail _ (.head _))) (Lib.laidMet.reads hL (.head _))

theorem tabs_two {W : World} (h : Lib.Utf8Tabs 0 1 W) : 2 ≤ W.heap.size := by
  have := World.block_lt_of_cell? W _ (h.2 0 (by decide)).1
  simp only at this
  omega

end Go.Proofs.YtgcmjidphoklkaaGreatDoor.Ih

/- Walks over layer 4's names. -/
namespace Go.Proofs.YtgcmjidphoklkaaGreatDoor.Ih
open Go.RowKit

def letterB (c : Int) : Bool := (decide (97 ≤ c) && decide (c ≤ 122)) || (decide (65 ≤ c) && decide (c ≤ 90)) || c == 95
def digitB (c : Int) : Bool := decide (48 ≤ c) && decide (c ≤ 57)
def partB (colon : Bool) (c : Int) : Bool := letterB c || digitB c || (colon && c == 58)
def namedB (s : ByteArray) (most : Nat) (colon : Bool) : Bool :=
  decide (0 < s.size) && decide (s.size ≤ most) && !digitB (s.get! 0).toNat && s.data.toList.all (fun c => partB colon c.toNat)

theorem digit_any (w : World) (c : Int) : Calls Tryz.prog 74 #[.int .u8 c] w (fun e w' => e = .returned (.bool (digitB c)) ∧ w' = w) := by
  go_enter Tryz.func74, Tryz.ntmps74
  go_wp2_with fail
  all_goals
    go_ret
    refine ⟨?_, rfl⟩
    refine congrArg Ending.returned (congrArg Value.bool ?_)
    rw [Bool.eq_iff_iff]
    simp [digitB]
    try omega

theorem letter_any (w : World) (c : Int) : Calls Tryz.prog 75 #[.int .u8 c] w (fun e w' => e = .returned (.bool (letterB c)) ∧ w' = w) := by
  go_enter Tryz.func75, Tryz.ntmps75
  go_wp2_with fail
  all_goals
    go_ret
    refine ⟨?_, rfl⟩
    refine congrArg Ending.returned (congrArg Value.bool ?_)
    rw [Bool.eq_iff_iff]
    simp [letterB]
    try omega

theorem below_bytes (w : World) (e : TypeId) (s : ByteArray) : Below w.heap.size w (Lib.bytesWorld w e s) :=
  ⟨rfl, rfl, rfl, by rw [Lib.bytesWorld_size]; omega, fun k hk => Lib.bytesWorld_at_old w e s k hk⟩

theorem all_take_succ {l : List UInt8} {p : UInt8 → Bool} {k : Nat} (h : (l.take k).all p = true) (hk : k < l.length) : (l.take (k + 1)).all p = p (l.getD k 0) := by
  rw [List.take_add_one, List.all_append, h]
  simp [List.getElem?_eq_getElem hk]

theorem all_of_take {l : List UInt8} {p : UInt8 → Bool} {k : Nat} (h : (l.take k).all p = false) : l.all p = false := by
  cases h2 : l.all p with
  | false => rfl
  | true =>
    rw [← h]
    symm
    rw [List.all_eq_true] at h2 ⊢
    exact fun x hx => h2 x (List.mem_of_mem_take hx)

set_option maxRecDepth 100000 in
theorem named_any (w : World) (s : ByteArray) (most : Nat) (colon : Bool) (hs : s.size ≤ 140737488355328) :
    Calls Tryz.prog 53 #[.string s, .int .i64 most, .bool colon] w (fun e w' => e = .returned (.bool (namedB s most colon)) ∧ Below w.heap.size w w') := by
  obtain ⟨ans, hans⟩ : ∃ a, namedB s most colon = a := ⟨_, rfl⟩
  rw [hans]
  go_enter Tryz.func53, Tryz.ntmps53
  by_cases h0 : s.size = 0
  · have htl : s.toList = [] := by
      rw [Lib.toList_data]
      exact List.length_eq_zero_iff.1 (by rw [← Lib.size_eq]; exact h0)
    have hres : namedB s most colon = false := by simp [namedB, h0]
    rw [hans] at hres; subst hres
    go_wp2_with fail
    go_ret
    exact ⟨rfl, Below.refl _ _⟩
  have htl : ¬ s.toList = [] := by
    rw [Lib.toList_data]
    intro h
    apply h0
    rw [Lib.size_eq, h]; rfl
  have h0p : 0 < s.size := by omega
  by_cases hm : s.size ≤ most
  · have hg : s[0]'h0p = s.get! 0 := (Utf8W.get!_of_lt s 0 h0p).symm
    obtain ⟨x, hx⟩ : ∃ x, s.get! 0 = x := ⟨_, rfl⟩
    rw [hx] at hg
    obtain ⟨c, hc⟩ : ∃ c : Int, (x.toNat : Int) = c := ⟨_, rfl⟩
    have hie : s.toList.isEmpty = false := by rw [List.isEmpty_eq_false_iff]; exact htl
    have hm2 : ¬ most < s.size := by omega
    obtain ⟨d, hd⟩ : ∃ d, digitB c = d := ⟨_, rfl⟩
    go_wp2_with fail
    refine (digit_any w _).mono ?_
    rintro e w1 ⟨rfl, rfl⟩
    rw [hd]
    cases d with
    | true =>
      have hres : namedB s most colon = false := by simp [namedB, hx, hc, hd]
      rw [hans] at hres; subst hres
      go_wp2_with fail
      go_ret
      exact ⟨rfl, Below.refl _ _⟩
    | false =>
      have hres : namedB s most colon = s.data.toList.all (fun c => partB colon c.toNat) := by simp [namedB, hx, hc, hd, h0p, hm]
      have hAns : s.data.toList.all (fun c => partB colon c.toNat) = ans := by rw [← hans, hres]
      have HANS := Lib.hid hAns
      clear hres hAns hans
      have hcv := Lib.run_convert_string_bytes (P := Tryz.prog) w1 9 33 5 s (u := .string) Tryz.underlying9 Tryz.underlying33 Tryz.underlying5
      have hW : Hid (∀ W, W = Lib.bytesWorld w1 5 s → Below w1.heap.size w1 W ∧ (∀ j, j < s.size → W.cell? ⟨w1.heap.size, j, none⟩ = some (.int .u8 (s.data.toList.getD j 0).toNat))) := by
        rintro W rfl
        exact ⟨below_bytes _ _ _, fun j hj => Lib.bytesWorld_cell _ _ _ j hj⟩
      go_wp2_with fail
      clear hcv
      generalize hWe : Lib.bytesWorld w1 5 s = W at *
      obtain ⟨hbW, hcell⟩ := hW.out W rfl
      clear hW hWe
      have HB := Lib.hid hbW
      have HC := Lib.hid hcell
      have hsl := Lib.size_eq s
      have HSL := Lib.hid hsl
      clear hbW hcell hsl
      generalize grownCap w1 s.size 0 5 = cap
      go_loopg [25] s.size (fun g i wr => ∃ k, k + g = s.size ∧ i = .int .i64 k ∧ wr = W ∧ (s.data.toList.take k).all (fun c => partB colon c.toNat) = true)
      case atStart => exact ⟨0, by omega, rfl, rfl, by simp⟩
      case round =>
        obtain ⟨k, hkg, rfl, rfl, hall⟩ := hrel
        have HALL := Lib.hid hall
        clear hall
        by_cases hlt : k < s.size
        · have hck := HC.out k hlt
          obtain ⟨y, hy⟩ : ∃ y, s.data.toList.getD k 0 = y := ⟨_, rfl⟩
          have hst := all_take_succ HALL.out (by rw [← HSL.out]; exact hlt)
          rw [hy] at hck hst
          have HST := Lib.hid hst
          obtain ⟨z, hz⟩ : ∃ z : Int, (y.toNat : Int) = z := ⟨_, rfl⟩
          rw [hz] at hck
          have hw1 : IntKind.i64.wrap ((k : Int) + 1) = (k : Int) + 1 := by rw [IntKind.wrap_i64] <;> omega
          clear hst hy
          rw [hz] at HST
          clear hz
          obtain ⟨lb, hlb⟩ : ∃ lb, letterB z = lb := ⟨_, rfl⟩
          obtain ⟨db, hdb⟩ : ∃ db, digitB z = db := ⟨_, rfl⟩
          have hpart : partB colon z = (lb || db || (colon && z == 58)) := by unfold partB; rw [hlb, hdb]
          have HP := Lib.hid hpart
          clear hpart
          go_wp2_with fail
          refine (letter_any wr z).mono ?_
          rintro e w2 ⟨rfl, rfl⟩
          rw [hlb]
          cases lb with
          | true =>
            go_wp2_with fail
            go_roundg (gk - 1)
            case measure => omega
            case rel => exact ⟨k + 1, by omega, by simp, rfl, by rw [HST.out, HP.out]; rfl⟩
          | false =>
            go_wp2_with fail
            refine (digit_any w2 z).mono ?_
            rintro e w3 ⟨rfl, rfl⟩
            rw [hdb]
            cases db with
            | true =>
              go_wp2_with fail
              go_roundg (gk - 1)
              case measure => omega
              case rel => exact ⟨k + 1, by omega, by simp, rfl, by rw [HST.out, HP.out]; rfl⟩
            | false =>
              have hans : (colon && z == 58) = false → ans = false := fun h => by
                rw [← HANS.out]
                exact all_of_take (by rw [HST.out, HP.out, h]; rfl)
              have HANS2 := Lib.hid hans
              clear hans
              cases colon with
              | false =>
                obtain rfl : ans = false := HANS2.out rfl
                go_wp2_with fail
                go_ret
                exact ⟨rfl, HB.out⟩
              | true =>
                by_cases hz58 : z = 58
                · subst hz58
                  go_wp2_with fail
                  go_roundg (gk - 1)
                  case measure => omega
                  case rel => exact ⟨k + 1, by omega, by simp, rfl, by rw [HST.out, HP.out]; rfl⟩
                · obtain rfl : ans = false := HANS2.out (by simp [hz58])
                  have hz2 : (z == 58) = false := by simp [hz58]
                  go_wp2_with fail
                  go_ret
                  exact ⟨rfl, HB.out⟩
        · obtain rfl : gk = 0 := by omega
          have htk : s.data.toList.take k = s.data.toList := List.take_of_length_le (by rw [← HSL.out]; omega)
          have hall2 := HALL.out
          rw [htk] at hall2
          rw [HANS.out] at hall2
          subst hall2
          go_wp2_with fail
          go_ret
          exact ⟨rfl, HB.out⟩
  · have hres : namedB s most colon = false := by simp [namedB, hm]
    rw [hans] at hres; subst hres
    go_wp2_with fail
    go_ret
    exact ⟨rfl, Below.refl _ _⟩

end Go.Proofs.YtgcmjidphoklkaaGreatDoor.Ih

/- Walks over layer 4's values, right label sets, Get. -/
namespace Go.Proofs.YtgcmjidphoklkaaGreatDoor.Ih
open Go.RowKit

theorem name_any (w : World) (s : ByteArray) (hs : s.size ≤ 140737488355328) :
    Calls Tryz.prog 40 #[.string s] w (fun e w' => e = .returned (.bool (namedB s 64 false)) ∧ Below w.heap.size w w') := by
  go_enter Tryz.func40, Tryz.ntmps40
  go_wp2_with fail
  refine (named_any w s 64 false hs).mono ?_
  rintro e w1 ⟨rfl, hb⟩
  have HB := Lib.hid hb
  clear hb
  go_wp2_with fail
  go_ret
  exact ⟨rfl, HB.out⟩

def ValueOk (s : ByteArray) : Prop := 0 < s.size ∧ s.size ≤ 256 ∧ Lib.validD s.data.toList = true

theorem toList_ne {s : ByteArray} (h : 0 < s.size) : ¬ s.toList = [] := by
  rw [Lib.toList_data]
  intro h1
  rw [Lib.size_eq, h1] at h
  simp at h

abbrev Lab := ByteArray × ByteArray
def LabAt (w : World) (b off : Nat) (l : List Lab) : Prop :=
  ∀ i x, l[i]? = some x → w.cell? ⟨b, off + i * 2, none⟩ = some (.string x.1) ∧ w.cell? ⟨b, off + i * 2 + 1, none⟩ = some (.string x.2)

theorem LabAt.below {w w' : World} {b off : Nat} {l : List Lab} (h : LabAt w b off l) (hb : Below w.heap.size w w') (hlt : b < w.heap.size) : LabAt w' b off l := fun i x hx =>
  ⟨(hb.cell (p := ⟨b, off + i * 2, none⟩) hlt).trans (h i x hx).1, (hb.cell (p := ⟨b, off + i * 2 + 1, none⟩) hlt).trans (h i x hx).2⟩

set_option maxHeartbeats 1000000 in
theorem get_any (w : World) (b off c : Nat) (l : List Lab) (name : ByteArray) (hl : LabAt w b off l) (hlt : b < w.heap.size) (hln : l.length ≤ 1000000) :
    Calls Tryz.prog 48 #[.slice (some ⟨b, off, none⟩) l.length c, .string name] w (fun e w' => e = .returned (.string (((l.find? (fun x => x.1.toList == name.toList)).map (·.2)).getD ⟨#[]⟩)) ∧ Below w.heap.size w w') := by
  obtain ⟨ans, hans⟩ : ∃ a, (((l.find? (fun x => x.1.toList == name.toList)).map (·.2)).getD ⟨#[]⟩) = a := ⟨_, rfl⟩
  rw [hans]
  have HL := Lib.hid hl
  have HA := Lib.hid hans
  clear hl hans
  go_enter Tryz.func48, Tryz.ntmps48
  go_wp2_with fail
  go_loopg [9] l.length (fun g i wr => ∃ k, k + g = l.length ∧ i = .int .i64 k ∧ Below w.heap.size w wr ∧ (((l.drop k).find? (fun x => x.1.toList == name.toList)).map (·.2)).getD ⟨#[]⟩ = ans)
  case atStart => exact ⟨0, by omega, rfl, Below.refl _ _, by simpa using HA.out⟩
  case round =>
    obtain ⟨k, hkg, rfl, hb, han⟩ := hrel
    have HB := Lib.hid hb
    have hsz := hb.size
    clear hb
    by_cases hlt2 : k < l.length
    · obtain ⟨x, hx⟩ : ∃ x, l[k]? = some x := ⟨_, List.getElem?_eq_getElem hlt2⟩
      have ⟨c1, c2⟩ := HL.out.below HB.out hlt k x hx
      have hdr : l.drop k = x :: l.drop (k + 1) := by
        rw [List.drop_eq_getElem_cons hlt2]
        congr
        rw [List.getElem?_eq_getElem hlt2] at hx
        exact Option.some.inj hx
      rw [hdr] at han
      have HAN := Lib.hid han
      have hw1 : IntKind.i64.wrap ((k : Int) + 1) = (k : Int) + 1 := by rw [IntKind.wrap_i64] <;> omega
      obtain ⟨n, v⟩ := x
      clear hx hdr han
      simp only at c1 c2
      have hcas : (n.toList == name.toList) = true ∧ ans = v ∨ (n.toList == name.toList) = false ∧ (((l.drop (k + 1)).find? (fun x => x.1.toList == name.toList)).map (·.2)).getD ⟨#[]⟩ = ans := by
        have h1 := HAN.out
        cases hq : (n.toList == name.toList) with
        | true => rw [List.find?_cons_of_pos (by simpa using hq)] at h1; exact .inl ⟨rfl, h1.symm⟩
        | false => rw [List.find?_cons_of_neg (by simpa using hq)] at h1; exact .inr ⟨rfl, h1⟩
      have HC := Lib.hid hcas
      clear hcas HAN
      obtain ⟨q, hq⟩ : ∃ q, (n.toList == name.toList) = q := ⟨_, rfl⟩
      cases q with
      | true =>
        have hav : ans = v := HC.out.elim (fun h => h.2) (fun h => by rw [hq] at h; cases h.1)
        subst hav
        go_wp2_with fail
        go_ret
        exact ⟨rfl, HB.out.trans ((Below.refl _ _).alloc hsz _)⟩
      | false =>
        have hav := HC.out.elim (fun h => by rw [hq] at h; cases h.1) (fun h => h.2)
        have HAV := Lib.hid hav
        clear hav HC
        go_wp2_with fail
        go_roundg (gk - 1)
        case measure => omega
        case rel => exact ⟨k + 1, by omega, by simp, HB.out.trans ((Below.refl _ _).alloc hsz _), HAV.out⟩
    · obtain rfl : gk = 0 := by omega
      rw [List.drop_of_length_le (by omega)] at han
      obtain rfl : ans = ⟨#[]⟩ := by rw [← han]; rfl
      go_wp2_with fail
      go_ret
      exact ⟨rfl, HB.out⟩

def LabOk (x : Lab) : Prop := namedB x.1 64 false = true ∧ x.1.size ≤ 64 ∧ ValueOk x.2

end Go.Proofs.YtgcmjidphoklkaaGreatDoor.Ih
