/- Walk over layer 5's Literal, of a row of runes. -/
import Derived.Test.YtjojhlkbcjhonaaDoorRxQc
namespace Go.Proofs.YtjojhlkbcjhonaaDoor.Rx
open Go.RowKit Go.Sort

attribute [local go_sem] run_store_one

def LtRel (w : World) (u : List Int) (g : Nat) (i : Value) (wr : World) : Prop :=
  ∃ k, k + g = u.length ∧ i = .int .i64 k ∧ Built w.heap.size w.heap.size (Lib.byteCells (encAll (u.take k))) wr ∧ Below w.heap.size w wr

theorem encAll_len : ∀ u : List Int, (encAll u).length ≤ 4 * u.length
  | [] => by simp [encAll]
  | c :: u => by
    have := encAll_len u
    have := encode_len4 c
    simp only [encAll, List.length_append, List.length_cons]
    omega

theorem encAll_append : ∀ u v : List Int, encAll (u ++ v) = encAll u ++ encAll v
  | [], v => rfl
  | c :: u, v => by simp [encAll, encAll_append u v]

theorem encAll_take {u : List Int} {k : Nat} {c : Int} (h : u[k]? = some c) : encAll (u.take (k + 1)) = encAll (u.take k) ++ Lib.encodeRune c := by
  have e : u.take (k + 1) = u.take k ++ [c] := by rw [List.take_add_one, h]; rfl
  rw [e, encAll_append]
  simp [encAll]

set_option maxHeartbeats 2000000 in
theorem literal_any (w : World) (rb : Nat) (u : List Int) (c : P9) (K C : List Nat) (v : Value) (ns : List NdM) (hR : RegexAt w rb (.row (onesOf u)) c K C v ns) (hu : ∀ x, x ∈ u → Scalar x) (hl : u.length ≤ 256) :
    Calls Tryd.prog 19 #[.pointer (some ⟨rb, 0, none⟩)] w (fun e w' => e = .returned (.tuple #[.string ⟨(encAll u).toArray⟩, .bool true]) ∧ Below w.heap.size w w') := by
  have hp := hR.part
  have hc := hR.cells
  have hrb := hR.lt
  have hlow := hR.low
  have h1 : c.kind = 1 := hp.1
  have hkids : Kids w (PVL Re.cnt w (onesOf u)) c.kids K C := hp.2.2.2.2.2.2.2.2
  obtain ⟨base, cap, hv⟩ := hkids.slice
  have hol : (onesOf u).length = u.length := by simp [onesOf]
  rw [PVL_length, hol] at hv
  obtain ⟨ck, ci, cp, cr, cd, cl, cm, cb, cn⟩ := c
  simp only at h1 hv hkids
  subst h1 hv
  obtain ⟨c0, c1, c2, c3, c4, c5, c6, c7, c8⟩ := hc
  simp only [Nat.zero_add] at c0 c1 c2 c3 c4 c5 c6 c7 c8
  have hrbn : ¬ rb = w.heap.size := by omega
  have HK := Lib.hid hkids
  have HLOW := Lib.hid hlow
  have HU := Lib.hid hu
  have HOL := Lib.hid hol
  have hW : Hid (∀ W, W = w.alloc (.cells #[.pointer none, .slice none 0 0] 75) → Below w.heap.size w W ∧ W.heap.size = w.heap.size + 1 ∧ Built w.heap.size w.heap.size (Lib.byteCells (encAll [])) W) := by
    rintro W rfl
    exact ⟨(Below.refl _ _).alloc (Nat.le_refl _) _, by simp, .inl ⟨Nat.le_refl _, .slice none 0 0, heap_alloc_new w _, World.ownsRowF_nil _ _ _ _, by simp [Value.ownBlock]⟩⟩
  clear hR hp hkids hlow hu hol
  go_enter Tryd.func19, Tryd.ntmps19
  go_wp2_with fail
  generalize hWe : w.alloc (.cells #[.pointer none, .slice none 0 0] 75) = W at *
  obtain ⟨hBW, hsW, hbu⟩ := hW.out W rfl
  clear hW hWe c0 c1 c2 c3 c4 c5 c6 c7 c8
  have HBW := Lib.hid hBW
  have HBU := Lib.hid hbu
  clear hBW hbu
  go_loopg [23] u.length (fun g i wr => LtRel w u g i wr)
  case atStart => exact ⟨0, by omega, rfl, by simpa using HBU.out, HBW.out⟩
  case round =>
    obtain ⟨k, hkg, rfl, hbu, hbl⟩ := hrel
    have HBL := Lib.hid hbl
    have hszr := hbl.size
    by_cases hlt : k < u.length
    · obtain ⟨x, hx⟩ : ∃ x, u[k]? = some x := ⟨_, List.getElem?_eq_getElem hlt⟩
      have hxs := HU.out x (List.mem_of_getElem? hx)
      have hq : (onesOf u)[k]? = some (onlyP x).re := by simp [onesOf, hx]
      obtain ⟨kb, cap', c2, K1, C1, hv, hkbK, _, hK1, hC1, hc2, hpq⟩ := HK.out.get hq
      rw [HOL.out] at hv
      injection hv with hv1 _ hv3
      subst hv1 hv3
      have hkl := HLOW.out kb (List.mem_append_left _ hkbK)
      have hc3 := hc2.like (hbl.block kb (by omega))
      have hpl : c2.plain = true := hpq.2.2.1
      have hcr : c2.r = x := hpq.2.2.2.1
      have ⟨o1, o2⟩ := hpq.one
      have hx32 : -2147483648 ≤ x ∧ x ≤ 2147483647 := by unfold Scalar at hxs; omega
      have hel := encAll_len (u.take k)
      have htk : (u.take k).length ≤ 256 := by rw [List.length_take]; omega
      have htake := encAll_take hx
      have HTAKE := Lib.hid htake
      have HBU2 := Lib.hid hbu
      have hlb := Lib.byteCells_length (encAll (u.take k))
      have HLB := Lib.hid hlb
      obtain ⟨d0, d1, d2, d3, d4, d5, d6, d7, d8⟩ := hc3
      have hkbn1 : ¬ kb = wr.heap.size := by omega
      have hkbn2 : kb < wr.heap.size := by omega
      have hw1 : IntKind.i64.wrap ((k : Int) + 1) = (k : Int) + 1 := by rw [IntKind.wrap_i64] <;> omega
      clear hbu hbl hq hpq hc2 htake hlb hx hxs
      rw [hpl] at d2
      rw [hcr] at d3
      clear hpl hcr
      generalize hE : encAll (u.take k) = E at *
      go_wp2_with fail
      generalize hWe : wr.alloc (.cells #[.int .i64 c2.kind, c2.is, .bool true, .int .i32 x, c2.kids, .int .i64 c2.least, .int .i64 c2.most, .bool c2.brace, .int .i64 c2.n] 54) = W2 at *
      have hb2 : Below wr.heap.size wr W2 := by rw [← hWe]; exact (Below.refl _ _).alloc (Nat.le_refl _) _
      have hbu2 : Built w.heap.size w.heap.size (Lib.byteCells E) W2 := by rw [← hWe]; exact HBU2.out.alloc _
      have HB2 := Lib.hid hb2
      have hsz2 := hb2.size
      clear hWe hb2 d0 d1 d2 d3 d4 d5 d6 d7 d8
      refine (writeRune_any W2 w.heap.size w.heap.size (Lib.byteCells E) x hx32.1 hx32.2 hbu2 (by rw [HLB.out]; omega) (by omega)).mono ?_
      rintro e w4 ⟨⟨n, rfl⟩, hb4, hbl4, _⟩
      have HB4 := Lib.hid hb4
      have HL4 := Lib.hid hbl4
      clear hb4 hbl4 hbu2
      go_wp2_with fail
      go_roundg (gk - 1)
      case measure => omega
      case rel => exact ⟨k + 1, by omega, by simp, by rw [HTAKE.out, Lib.byteCells_append, Lib.byteCells_encodeRune]; exact HB4.out, HBL.out.trans ((HB2.out.mono hszr).trans HL4.out)⟩
    · obtain rfl : gk = 0 := by omega
      have htk : u.take k = u := List.take_of_length_le (by omega)
      rw [htk] at hbu
      have HBU2 := Lib.hid hbu
      clear hbu hbl htk
      go_wp2_with fail
      refine (Tryd.Builder_String_any_k w.heap.size w.heap.size _ wr HBU2.out (by omega)).mono ?_
      rintro e w2 ⟨rfl, _, hb2, _⟩
      have HB2 := Lib.hid hb2
      clear hb2
      go_wp2_with fail
      go_ret2
      exact ⟨rfl, HBL.out.trans HB2.out⟩

end Go.Proofs.YtjojhlkbcjhonaaDoor.Rx
