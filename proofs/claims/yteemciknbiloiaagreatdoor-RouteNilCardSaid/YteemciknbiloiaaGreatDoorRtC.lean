/- Walks over layer 4: pick, Keep. -/
import Derived.Test.YteemciknbiloiaaGreatDoorIhBr
import Derived.Deep.AppendLies
namespace Go.Proofs.YteemciknbiloiaaGreatDoor.Ih
open Go.RowKit

attribute [local go_sem] run_store_one

def flatL (l : List Lab) : List Value := l.flatMap fun x => [.string x.1, .string x.2]

theorem flatL_append (a b : List Lab) : flatL (a ++ b) = flatL a ++ flatL b := by simp [flatL]

theorem infoLab : (Tryz.prog.info? 56).map (fun i => (i.zero, i.size, i.bytes)) = some (some (.agg #[.string ⟨#[]⟩, .string ⟨#[]⟩]), 2, 32) := by kernel_rfl

def picked (nm : ByteArray) (l : List Lab) : List Lab := l.filter fun x => Lib.containsS [nm] x.1

theorem picked_take {nm : ByteArray} {l : List Lab} {k : Nat} {x : Lab} (h : l[k]? = some x) : picked nm (l.take (k + 1)) = picked nm (l.take k) ++ (if Lib.containsS [nm] x.1 then [x] else []) := by
  unfold picked
  rw [List.take_add_one, h, List.filter_append]
  cases hc : Lib.containsS [nm] x.1 <;> simp [hc]

theorem grownC {w w' : World} (h : Below w.heap.size w w') : w.grownBy w' none := ⟨h.os, h.tape, h.output, h.size, fun k hk _ => h.block k hk⟩

theorem news_two (W : World) (t : TypeId) (a b : Value) : ∀ (j : Nat) (u : Value), [a, b][j]? = some u → (W.alloc (.cells #[a, b] t)).cell? ((⟨W.heap.size, 0, none⟩ : Addr).add j) = some u := World.news_of_block (heap_alloc_new W _)

theorem row_one {w : World} {base : Nat} {e : TypeId} {size : Nat} {v : Value} {n : Nat} {xs : List Value} (h : w.ownsRow base e size v n xs) : v.oneCell' = true := by
  rcases h.2 with ⟨rfl, _⟩ | ⟨g, cap, cur, rfl, _⟩ <;> rfl

theorem ownsRow_lower {w : World} {base base' : Nat} {e : TypeId} {size : Nat} {v : Value} {n : Nat} {xs : List Value} (h : w.ownsRow base e size v n xs) (hb : base' ≤ base) : w.ownsRow base' e size v n xs := by
  obtain ⟨h1, h2⟩ := h
  refine ⟨h1, h2.imp id ?_⟩
  rintro ⟨g, cap, cur, a1, a2, a3⟩
  exact ⟨g, cap, cur, a1, Nat.le_trans hb a2, a3⟩

set_option maxRecDepth 100000 in
set_option maxHeartbeats 2000000 in
theorem pick_in (w : World) (b off c nb no nc : Nat) (l : List Lab) (nm : ByteArray) (hl : LabAt w b off l) (hlt : b < w.heap.size) (hln : l.length ≤ 16) (hn : w.cell? ⟨nb, no, none⟩ = some (.string nm)) (hnlt : nb < w.heap.size) :
    Calls Tryz.prog 25 #[.slice (some ⟨b, off, none⟩) l.length c, .bool true, .slice (some ⟨nb, no, none⟩) 1 nc] w (fun e w' => ∃ v, e = .returned v ∧ Below w.heap.size w w' ∧ w'.ownsRow w.heap.size 56 2 v (picked nm l).length (flatL (picked nm l))) := by
  have HL := Lib.hid hl
  have HN := Lib.hid hn
  obtain ⟨i0, hi0, hz0, hz1, hz2⟩ := info_parts infoLab
  clear hl hn
  go_enter Tryz.func25, Tryz.ntmps25
  go_wp2_with fail
  go_loopg [7, 12] l.length (fun g v i wr => ∃ k, k + g = l.length ∧ i = .int .i64 k ∧ Below w.heap.size w wr ∧ wr.ownsRow w.heap.size 56 2 v (picked nm (l.take k)).length (flatL (picked nm (l.take k))))
  case atStart => exact ⟨0, by omega, rfl, Below.refl _ _, World.ownsRow_nil _ _ _ _⟩
  case round =>
    obtain ⟨k, hkg, rfl, hb, hown⟩ := hrel
    have HB := Lib.hid hb
    have HO := Lib.hid hown
    have hsz := hb.size
    clear hb hown
    by_cases hlt2 : k < l.length
    · obtain ⟨x, hx⟩ : ∃ x, l[k]? = some x := ⟨_, List.getElem?_eq_getElem hlt2⟩
      have ⟨c1, c2⟩ := HL.out.below HB.out hlt k x hx
      have HT := Lib.hid (picked_take (nm := nm) hx)
      have hw1 : IntKind.i64.wrap ((k : Int) + 1) = (k : Int) + 1 := by rw [IntKind.wrap_i64] <;> omega
      have hpl : (picked nm (l.take k)).length ≤ 16 := Nat.le_trans (List.length_filter_le _ _) (by simp; omega)
      obtain ⟨xn, xv⟩ := x
      simp only at c1 c2
      have hW : Hid (∀ W, W = wr.alloc (.cells #[.string xn, .string xv] 56) → Below wr.heap.size wr W ∧ W.heap.size = wr.heap.size + 1 ∧ W.cell? ⟨wr.heap.size, 0, none⟩ = some (.string xn) ∧ W.cell? ⟨wr.heap.size, 1, none⟩ = some (.string xv)) := by
        rintro W rfl
        exact ⟨(Below.refl _ _).alloc (Nat.le_refl _) _, by simp, by simp, by simp⟩
      clear hx
      go_wp2_with fail
      generalize hWe : wr.alloc (.cells #[.string xn, .string xv] 56) = W at *
      obtain ⟨hbW, hszW, d1, d2⟩ := hW.out W rfl
      clear hW hWe c1 c2
      have HBW := Lib.hid (HB.out.trans (hbW.mono hsz))
      have HOW := Lib.hid (HO.out.kept (grownC hbW) (by cases Value.ownBlock _ <;> simp))
      clear hbW
      refine (Tryz.slices_Contains_string nb no 1 nc [nm] xn W (by simp) (by omega) (fun j hj => ?_)).mono ?_
      · obtain rfl : j = 0 := by simp at hj; omega
        exact (HBW.out.cell (p := ⟨nb, no, none⟩) hnlt).trans HN.out
      rintro e w2 ⟨rfl, rfl⟩
      rw [show [nm].take 1 = [nm] from rfl]
      obtain ⟨r, hr⟩ : ∃ r, Lib.containsS [nm] xn = r := ⟨_, rfl⟩
      rw [hr] at HT ⊢
      clear hr
      have hO1 := row_one HO.out
      cases r
      · have HT2 : Hid (picked nm (l.take (k + 1)) = picked nm (l.take k)) := Lib.hid (by rw [HT.out]; simp)
        clear HT
        go_wp2_with fail
        go_roundg (gk - 1)
        case measure => omega
        case rel => exact ⟨k + 1, by omega, by simp, HBW.out, by rw [HT2.out]; exact HOW.out⟩
      · have HT2 : Hid (picked nm (l.take (k + 1)) = picked nm (l.take k) ++ [(xn, xv)]) := Lib.hid (by rw [HT.out]; simp)
        have hnw := news_two w2 56 (.string xn) (.string xv)
        rw [hszW] at hnw
        have HNW := Lib.hid hnw
        clear hnw
        clear HT
        have hzw : w.heap.size ≤ w2.heap.size := by omega
        go_wp2_with (at_builtin; go_loud (refine wpList_append_lies _ rfl _ _ _ rfl w.heap.size 56 i0 _ 2 32 Tryz.underlying22 hi0 hz0 hz1 hz2 rfl (by omega) u7 (picked nm (l.take k)).length (flatL (picked nm (l.take k))) rfl (HOW.out.alloc _) ⟨wr.heap.size + 1, 0, none⟩ 1 1 [.string xn, .string xv] rfl rfl HNW.out (by intro u hu; simp at hu; rcases hu with rfl | rfl <;> rfl) (by omega) (by unfold maxLen; omega) (by omega) (by simp; omega) (w2.heap.size + 1) (by simp) ?_))
        intro g1 cap1 w3 hown hgrow hat hgl
        have hb3 : Below w.heap.size w w3 := (HBW.out.alloc hzw _).grown hgrow (by simp; omega) (fun q hq => (HOW.out.lt q hq).1)
        have HB3 := Lib.hid hb3
        have HO3 : Hid (w3.ownsRow w.heap.size 56 2 (.slice (some ⟨g1, 0, none⟩) ((picked nm (l.take k)).length + 1) cap1) (picked nm (l.take (k + 1))).length (flatL (picked nm (l.take (k + 1))))) := Lib.hid (by
          rw [HT2.out, flatL_append, List.length_append]
          exact hown)
        clear hown hgrow hat hgl hb3 HNW
        go_wp2_with fail
        go_roundg (gk - 1)
        case measure => omega
        case rel => exact ⟨k + 1, by omega, by simp, HB3.out, HO3.out⟩
    · obtain rfl : gk = 0 := by omega
      have HF : Hid (picked nm (l.take k) = picked nm l) := Lib.hid (by rw [List.take_of_length_le (by omega)])
      rw [HF.out] at HO
      clear HF
      go_wp2_with fail
      go_ret
      exact ⟨_, rfl, HB.out, HO.out⟩

/-- Labels that are right: each is, their names rise. -/
def LabsOk (l : List Lab) : Prop := (∀ x, x ∈ l → LabOk x) ∧ ∀ i x y, l[i]? = some x → l[i + 1]? = some y → Op.bytesLess y.1.toList x.1.toList = false ∧ (y.1.toList == x.1.toList) = false

theorem lright_ok (w : World) (b off c : Nat) (l : List Lab) (hT : Lib.Utf8Tabs 0 1 w) (hl : LabAt w b off l) (hlt : b < w.heap.size) (hln : l.length ≤ 16) (hok : LabsOk l) :
    Calls Tryz.prog 24 #[.slice (some ⟨b, off, none⟩) l.length c] w (fun e w' => e = .returned (.int .i64 0) ∧ Below w.heap.size w w') := by
  have HC := Lib.hid (right_ok w b off c l hT hl hlt hln hok.1 hok.2)
  clear hT hl hok
  go_enter Tryz.func24, Tryz.ntmps24
  go_wp2_with fail
  refine HC.out.mono ?_
  rintro e w1 ⟨rfl, hb⟩
  have HB := Lib.hid hb
  clear hb
  go_wp2_with fail
  go_ret
  exact ⟨rfl, HB.out⟩

set_option maxRecDepth 100000 in
theorem keep_ok (w : World) (b off c nb no nc : Nat) (l : List Lab) (nm : ByteArray) (hT : Lib.Utf8Tabs 0 1 w) (hl : LabAt w b off l) (hlt : b < w.heap.size) (hln : l.length ≤ 16) (hok : LabsOk l)
    (hn : w.cell? ⟨nb, no, none⟩ = some (.string nm)) (hnlt : nb < w.heap.size) :
    Calls Tryz.prog 12 #[.slice (some ⟨b, off, none⟩) l.length c, .slice (some ⟨nb, no, none⟩) 1 nc] w (fun e w' => ∃ v, e = .returned (.tuple #[v, .int .i64 0]) ∧ Below w.heap.size w w' ∧ w'.ownsRow w.heap.size 56 2 v (picked nm l).length (flatL (picked nm l))) := by
  have HC := Lib.hid (lright_ok w b off c l hT hl hlt hln hok)
  have HL := Lib.hid hl
  have HN := Lib.hid hn
  clear hT hl hok hn
  go_enter Tryz.func12, Tryz.ntmps12
  go_wp2_with fail
  refine HC.out.mono ?_
  rintro e w1 ⟨rfl, hb⟩
  have HB := Lib.hid hb
  have hz := hb.size
  have HP := Lib.hid (pick_in w1 b off c nb no nc l nm (HL.out.below hb hlt) (by omega) hln ((hb.cell (p := ⟨nb, no, none⟩) hnlt).trans HN.out) (by omega))
  clear hb
  go_wp2_with fail
  refine HP.out.mono ?_
  rintro e w2 ⟨v, rfl, hb2, hown⟩
  have HB2 := Lib.hid (HB.out.trans (hb2.mono hz))
  have HO := Lib.hid (hown)
  clear hb2 hown
  go_wp2_with fail
  go_ret2
  refine ⟨v, rfl, HB2.out, ?_⟩
  exact ownsRow_lower HO.out hz

end Go.Proofs.YteemciknbiloiaaGreatDoor.Ih
