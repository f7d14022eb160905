/- Walks over layer 24: Right of routes whose parent is the first one. -/
import Derived.Test.YteemciknbiloiaaGreatDoorRtG
namespace Go.Proofs.YteemciknbiloiaaGreatDoor.Ih
open Go.RowKit

attribute [local go_sem] run_store_one

/-- A route. -/
structure Rt where
  p : Int
  rc : ByteArray
  ms : List Mat
  ns : List ByteArray
  wt : Int
  iv : Int
  rp : Int
  ct : Bool

/-- A route that is right at its place; all parents are the first one. -/
structure Rt.Ok (r : Rt) (i : Nat) : Prop where
  first : i = 0 → r.p = -1 ∧ r.ms = [] ∧ r.ct = false
  later : 0 < i → r.p = 0
  msl : r.ms.length ≤ 16
  msok : ∀ x, x ∈ r.ms → x.Good
  nsl : r.ns.length ≤ 1
  nsok : ∀ n, n ∈ r.ns → n.size ≤ 64 ∧ namedB n 64 false = true
  w0 : 0 ≤ r.wt
  w1 : r.wt ≤ 1099511627776
  i0 : 1 ≤ r.iv
  i1 : r.iv ≤ 1099511627776
  p0 : 1 ≤ r.rp
  p1 : r.rp ≤ 1099511627776
  c0 : 1 ≤ r.rc.size
  c1 : r.rc.size ≤ 64

abbrev Rt.v (r : Rt) (mv bv : Value) : Value := rtV r.p r.rc mv bv false r.wt r.iv r.rp r.ct

/-- Routes in memory, their lists from B on. -/
def RtsAt (w : World) (b off B : Nat) (rs : List Rt) : Prop :=
  ∀ i r, rs[i]? = some r → ∃ mv bv, ClM B w mv r.ms ∧ ClS B w bv r.ns ∧ w.cell? ⟨b, off + i * 9, none⟩ = some (.int .i64 r.p) ∧ w.cell? ⟨b, off + i * 9 + 1, none⟩ = some (.string r.rc) ∧ w.cell? ⟨b, off + i * 9 + 2, none⟩ = some mv ∧ w.cell? ⟨b, off + i * 9 + 3, none⟩ = some bv ∧
    w.cell? ⟨b, off + i * 9 + 4, none⟩ = some (.bool false) ∧ w.cell? ⟨b, off + i * 9 + 5, none⟩ = some (.int .i64 r.wt) ∧ w.cell? ⟨b, off + i * 9 + 6, none⟩ = some (.int .i64 r.iv) ∧ w.cell? ⟨b, off + i * 9 + 7, none⟩ = some (.int .i64 r.rp) ∧ w.cell? ⟨b, off + i * 9 + 8, none⟩ = some (.bool r.ct)

theorem RtsAt.below {w w' : World} {b off B : Nat} {rs : List Rt} (h : RtsAt w b off B rs) (hb : Below w.heap.size w w') (hlt : b < w.heap.size) : RtsAt w' b off B rs := fun i r hr => by
  obtain ⟨mv, bv, hm, hs, h0, h1, h2, h3, h4, h5, h6, h7, h8⟩ := h i r hr
  have e : ∀ k, w'.cell? ⟨b, k, none⟩ = w.cell? ⟨b, k, none⟩ := fun k => hb.cell (p := ⟨b, k, none⟩) hlt
  exact ⟨mv, bv, hm.below hb, hs.below hb, (e _).trans h0, (e _).trans h1, (e _).trans h2, (e _).trans h3, (e _).trans h4, (e _).trans h5, (e _).trans h6, (e _).trans h7, (e _).trans h8⟩

theorem by_cl (w : World) (B : Nat) (r : Rt) (mv bv : Value) (hs : ClS B w bv r.ns) (hnl : r.ns.length ≤ 1) (hok : ∀ n, n ∈ r.ns → n.size ≤ 64 ∧ namedB n 64 false = true) :
    Calls Tryz.prog 72 #[r.v mv bv] w (fun e w' => e = .returned (.bool true) ∧ Below w.heap.size w w') := by
  rcases hs with ⟨_, rfl⟩ | ⟨g, c, rfl, hne, hcc, _, hlt, hm⟩
  · exact by_nil w r.p r.rc mv r.wt r.iv r.rp r.ct
  · obtain ⟨n, hn⟩ : ∃ n, r.ns = [n] := by
      cases h : r.ns with
      | nil => exact absurd h hne
      | cons n t =>
        cases t with
        | nil => exact ⟨n, rfl⟩
        | cons a b => rw [h] at hnl; simp at hnl
    have h0 := hm 0 (by rw [hn]; exact Nat.one_pos)
    obtain ⟨o1, o2⟩ := hok n (by rw [hn]; exact List.mem_singleton.2 rfl)
    rw [hn] at h0 hcc ⊢
    exact by_one w r.p r.rc mv g c n r.wt r.iv r.rp r.ct h0 hlt hcc o1 o2

theorem can_ok (w : World) (B i : Nat) (r : Rt) (mv bv : Value) (hT : Lib.Utf8Tabs 0 1 w) (h2 : 2 ≤ w.heap.size) (hm : ClM B w mv r.ms) (hs : ClS B w bv r.ns) (hi : i ≤ 64) (ho : r.Ok i) :
    Calls Tryz.prog 58 #[r.v mv bv, .int .i64 i] w (fun e w' => e = .returned (.bool true) ∧ Below w.heap.size w w') := by
  have HR : ∀ X, Below w.heap.size w X → Calls Tryz.prog 59 #[mv] X (fun e w' => e = .returned (.tuple #[.int .i64 0, .int .i64 0]) ∧ Below X.heap.size X w') := fun X hX =>
    rights_cl X B mv r.ms (Utf8Tabs_below hT hX) (Nat.le_trans h2 hX.size) (hm.below hX) ho.msl ho.msok
  have HY : ∀ X, Below w.heap.size w X → Calls Tryz.prog 72 #[r.v mv bv] X (fun e w' => e = .returned (.bool true) ∧ Below X.heap.size X w') := fun X hX =>
    by_cl X B r mv bv (hs.below hX) ho.nsl ho.nsok
  by_cases h0 : i = 0
  · subst h0
    obtain ⟨e1, e2, e3⟩ := ho.first rfl
    have e4 : mv = .slice none 0 0 := by
      rcases hm with ⟨_, h⟩ | ⟨_, _, _, h, _⟩
      · exact h
      · exact absurd e2 h
    subst e4
    unfold Rt.v at HY ⊢
    rw [e1, e3] at HY ⊢
    exact can_first w r.rc bv r.wt r.iv r.rp HR HY ho.w0 ho.w1 ho.i0 ho.i1 ho.p0 ho.p1 ho.c0 ho.c1
  · have e1 := ho.later (by omega)
    exact can_later w r.p i r.rc mv bv r.ct r.wt r.iv r.rp (by omega) hi (by omega) (by omega) HR HY ho.w0 ho.w1 ho.i0 ho.i1 ho.p0 ho.p1 ho.c0 ho.c1

set_option maxRecDepth 100000 in
set_option maxHeartbeats 2000000 in
theorem routes_right (w : World) (b off c B : Nat) (rs : List Rt) (hT : Lib.Utf8Tabs 0 1 w) (h2 : 2 ≤ w.heap.size) (hl : RtsAt w b off B rs) (hlt : b < w.heap.size) (hn0 : rs.length ≠ 0) (hln : rs.length ≤ 64) (hok : ∀ (i : Nat) (r : Rt), rs[i]? = some r → r.Ok i) :
    Calls Tryz.prog 43 #[.slice (some ⟨b, off, none⟩) rs.length c] w (fun e w' => e = .returned (.tuple #[.int .i64 0, .int .i64 0]) ∧ Below w.heap.size w w') := by
  have HL := Lib.hid hl
  have HOK := Lib.hid hok
  have HT := Lib.hid hT
  have e1 : ((rs.length : Int) == 0) = false := by simpa using hn0
  have e2 : decide (64 < (rs.length : Int)) = false := by simp; omega
  clear hl hok hT
  go_enter Tryz.func43, Tryz.ntmps43
  go_wp2_with fail
  go_loopg [16] rs.length (fun g i wr => ∃ k, k + g = rs.length ∧ i = .int .i64 k ∧ Below w.heap.size w wr)
  case atStart => exact ⟨0, by omega, rfl, Below.refl _ _⟩
  case round =>
    obtain ⟨k, hkg, rfl, hb⟩ := hrel
    have HB := Lib.hid hb
    have hsz := hb.size
    clear hb
    by_cases hlt2 : k < rs.length
    · obtain ⟨x, hx⟩ : ∃ x, rs[k]? = some x := ⟨_, List.getElem?_eq_getElem hlt2⟩
      obtain ⟨mv, bv, hm, hs, c0, c1, c2, c3, c4, c5, c6, c7, c8⟩ := HL.out.below HB.out hlt k x hx
      have HO := Lib.hid (HOK.out k x hx)
      have HMS : Hid (ClM B wr mv x.ms ∧ ClS B wr bv x.ns) := Lib.hid ⟨hm, hs⟩
      have hw1 : IntKind.i64.wrap ((k : Int) + 1) = (k : Int) + 1 := by rw [IntKind.wrap_i64] <;> omega
      have hW : Hid (∀ W, W = wr.alloc (.cells #[.int .i64 x.p, .string x.rc, mv, bv, .bool false, .int .i64 x.wt, .int .i64 x.iv, .int .i64 x.rp, .bool x.ct] 33) → Below wr.heap.size wr W) := by
        rintro W rfl
        exact (Below.refl _ _).alloc (Nat.le_refl _) _
      have hm1 := hm.one
      have hs1 := hs.one
      clear hx hm hs
      go_wp2_with fail
      generalize hWe : wr.alloc (.cells #[.int .i64 x.p, .string x.rc, mv, bv, .bool false, .int .i64 x.wt, .int .i64 x.iv, .int .i64 x.rp, .bool x.ct] 33) = W
      have hbW := hW.out W hWe.symm
      have HBW := Lib.hid (HB.out.trans (hbW.mono hsz))
      refine (can_ok W B k x mv bv (Utf8Tabs_below HT.out HBW.out) (by have := hbW.size; omega) (HMS.out.1.below hbW) (HMS.out.2.below hbW) (by omega) HO.out).mono ?_
      rintro e w2 ⟨rfl, hb2⟩
      have HB2 := Lib.hid (HBW.out.trans (hb2.mono (by have := hbW.size; omega)))
      clear hb2 hbW hWe hW c0 c1 c2 c3 c4 c5 c6 c7 c8
      go_wp2_with fail
      go_roundg (gk - 1)
      case measure => omega
      case rel => exact ⟨k + 1, by omega, by simp, HB2.out⟩
    · obtain rfl : gk = 0 := by omega
      go_wp2_with fail
      go_ret2
      exact ⟨rfl, HB.out⟩

end Go.Proofs.YteemciknbiloiaaGreatDoor.Ih
