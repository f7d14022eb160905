/- Walk over layer 23: By. -/
import Derived.Test.YtjojhlkbcjhonaaDoorIhM
import Derived.WalkMore
import Derived.Deep.AppendLies
namespace Go.Proofs.YtjojhlkbcjhonaaDoor.Ih
open Go.RowKit

theorem RulesAt.asked {w w' : World} {rb lb xs gs ms xt gt mt eb ec B : Nat} {s t : Mat} {cn : ByteArray} (h : RulesAt w rb lb xs gs ms xt gt mt eb ec B s t cn) (hb : But2 ms mt w w') (hr : RuleAt w' xs gs ms xt gt mt eb B s t cn) : RulesAt w' rb lb xs gs ms xt gt mt eb ec B s t cn := by
  have hle := h.rule.ls.le
  have h1 := h.rlt
  have h2 := h.llt
  have e : ∀ k, w'.cell? ⟨lb, k, none⟩ = w.cell? ⟨lb, k, none⟩ := fun k => hb.cell (p := ⟨lb, k, none⟩) (by show lb < _; omega) h.n3 h.n4
  exact ⟨h.cell.imp fun _ c => (hb.cell (p := ⟨rb, 0, none⟩) (by show rb < _; omega) h.n1 h.n2).trans c, (e 0).trans h.l0, (e 1).trans h.l1, (e 2).trans h.l2, hr, h.rlt, h.llt, h.n1, h.n2, h.n3, h.n4⟩

theorem RulesAt.below {w w' : World} {rb lb xs gs ms xt gt mt eb ec B : Nat} {s t : Mat} {cn : ByteArray} (h : RulesAt w rb lb xs gs ms xt gt mt eb ec B s t cn) (hb : Below w.heap.size w w') : RulesAt w' rb lb xs gs ms xt gt mt eb ec B s t cn :=
  h.asked (.of hb) (h.rule.below hb)

/-- Where a label set lies. -/
structure LabP where
  b : Nat
  o : Nat
  c : Nat
  l : List Lab

abbrev LabP.v (p : LabP) : Value := .slice (some ⟨p.b, p.o, none⟩) p.l.length p.c

structure LabsOk (l : List Lab) : Prop where
  len : l.length ≤ 16
  ok : ∀ x, x ∈ l → LabOk x
  so : ∀ i x y, l[i]? = some x → l[i + 1]? = some y → Op.bytesLess y.1.toList x.1.toList = false ∧ (y.1.toList == x.1.toList) = false

structure LabP.At (p : LabP) (w : World) (B : Nat) : Prop where
  at_ : LabAt w p.b p.o p.l
  lt : p.b < w.heap.size
  ge : B ≤ p.b
  ok : LabsOk p.l

theorem LabP.At.but2 {w w' : World} {p : LabP} {a b B : Nat} (h : p.At w B) (hb : But2 a b w w') (h1 : a < B) (h2 : b < B) : p.At w' B := by
  have := h.ge
  exact ⟨h.at_.but2 hb h.lt (by omega) (by omega), Nat.lt_of_lt_of_le h.lt hb.size, h.ge, h.ok⟩

theorem LabP.At.below {w w' : World} {p : LabP} {B : Nat} (h : p.At w B) (hb : Below w.heap.size w w') : p.At w' B :=
  ⟨h.at_.below hb h.lt, Nat.lt_of_lt_of_le h.lt hb.size, h.ge, h.ok⟩

def byFrom (f : LabP → Bool) : List LabP → Nat → Int × Int
  | [], _ => (-1, -1)
  | p :: r, k => if f p then (0, k) else byFrom f r (k + 1)

theorem infoLabs : (Tryd.prog.info? 42).map (fun i => (i.zero, i.size, i.bytes)) = some (some (.slice none 0 0), 1, 24) := by kernel_rfl

set_option maxRecDepth 100000 in
set_option maxHeartbeats 8000000 in
theorem by_any (w : World) (rb lb xs gs ms xt gt mt eb ec B : Nat) (s t : Mat) (cn : ByteArray) (tg : LabP) (vb vo vc : Nat) (ss : List LabP) (hT : Lib.Utf8Tabs 0 1 w)
    (h : RulesAt w rb lb xs gs ms xt gt mt eb ec B s t cn) (ho : InhOk s t cn) (h2 : 2 ≤ ms) (h3 : 2 ≤ mt) (htg : tg.At w B) (hss : ∀ p, p ∈ ss → p.At w B) (hv : ∀ k p, ss[k]? = some p → w.cell? ⟨vb, vo + k, none⟩ = some p.v) (hvb : vb < w.heap.size) (hvB : B ≤ vb) (hn : 0 < ss.length) (hn2 : ss.length ≤ 1000) :
    Calls Tryd.prog 22 #[.pointer (some ⟨rb, 0, none⟩), tg.v, .slice (some ⟨vb, vo, none⟩) ss.length vc] w
      (fun e w' => e = .returned (.tuple #[.int .i64 (byFrom (fun p => holdsB s t cn p.l tg.l) ss 0).1, .int .i64 (byFrom (fun p => holdsB s t cn p.l tg.l) ss 0).2, .int .i64 0]) ∧ But2 ms mt w w' ∧ RulesAt w' rb lb xs gs ms xt gt mt eb ec B s t cn) := by
  obtain ⟨⟨r1, r2⟩, hr⟩ : ∃ r, byFrom (fun p => holdsB s t cn p.l tg.l) ss 0 = r := ⟨_, rfl⟩
  rw [hr]
  have HR := Lib.hid hr
  have H := Lib.hid h
  have HO := Lib.hid ho
  have HT := Lib.hid hT
  have HTG := Lib.hid htg
  have HSS := Lib.hid hss
  have HV := Lib.hid hv
  obtain ⟨i0, hi0, hz0, hzi1, hzi2⟩ := info_parts infoLabs
  have hnews : ∀ (j : Nat) (u : Value), (ss.map LabP.v)[j]? = some u → (w.alloc (.cells #[tg.v] 42)).cell? ((⟨vb, vo, none⟩ : Addr).add j) = some u := fun j u hu => by
    rw [List.getElem?_map] at hu
    obtain ⟨p, hp, rfl⟩ := Option.map_eq_some_iff.1 hu
    have e : (⟨vb, vo, none⟩ : Addr).add j = ⟨vb, vo + j, none⟩ := by simp [Addr.add]
    rw [e]
    exact (World.cell?_alloc_past (w := w) (.cells #[tg.v] 42) vb (vo + j) hvb).trans (HV.out j p hp)
  have HNEWS := Lib.hid hnews
  have hone : ∀ u, u ∈ ss.map LabP.v → u.oneCell' = true := fun u hu => by
    obtain ⟨p, _, rfl⟩ := List.mem_map.1 hu
    rfl
  have HONE := Lib.hid hone
  clear hr h ho hT htg hss hv hnews hone
  go_enter Tryd.func22, Tryd.ntmps22
  go_wp2_with fail
  go_step3
  go_wp2_with (at_builtin; refine wpList_append_lies _ rfl _ _ _ rfl w.heap.size 42 i0 _ 1 24 Tryd.underlying43 hi0 hz0 hzi1 hzi2 rfl (by omega) (.slice (some ⟨w.heap.size, 0, none⟩) 1 1) 1 [tg.v] rfl (World.ownsRow_lit w #[tg.v] 1 (Nat.le_refl _) (by decide) rfl) ⟨vb, vo, none⟩ ss.length vc (ss.map LabP.v) rfl (by simp) HNEWS.out HONE.out hn (by unfold maxLen; omega) (by omega) (by simp) (w.heap.size + 1) (by simp) ?_)
  intro gg cap2 w2 hown2 hgr2 hat2 hlt2
  have hbw2 : Below w.heap.size w w2 := ((Below.refl w.heap.size w).alloc (Nat.le_refl _) (.cells #[tg.v] 42)).grown hgr2 (by simp) (fun k hk => by have : w.heap.size = k := (by injection hk); omega)
  have hrow : ∀ k p, (tg :: ss)[k]? = some p → w2.cell? ⟨gg, k, none⟩ = some p.v := fun k p hp => by
    have hk : k < (tg :: ss).length := (List.getElem?_eq_some_iff.1 hp).1
    rw [hown2.cellAt k (by simp at hk; omega)]
    show ((tg :: ss).map LabP.v)[k]? = _
    rw [List.getElem?_map, hp]; rfl
  have HROW := Lib.hid hrow
  have HB2 := Lib.hid hbw2
  have HLT2 := Lib.hid hlt2
  clear hown2 hgr2 hat2 hbw2 hrow
  have hz2 := HB2.out.size
  have hw0 : IntKind.i64.wrap ((1 : Int) + (ss.length : Int)) = 1 + (ss.length : Int) := by rw [IntKind.wrap_i64] <;> omega
  go_wp2_with fail
  go_loopg [26] (1 + ss.length) (fun g i wr => ∃ k, k + g = 1 + ss.length ∧ i = .int .i64 k ∧ Below w2.heap.size w2 wr)
  case atStart => exact ⟨0, by omega, rfl, Below.refl _ _⟩
  case round =>
    obtain ⟨k, hkg, rfl, hb⟩ := hrel
    have HB3 := Lib.hid hb
    have hz3 := hb.size
    clear hb
    by_cases hlt : k < 1 + ss.length
    · obtain ⟨p, hp⟩ : ∃ p, (tg :: ss)[k]? = some p := ⟨_, List.getElem?_eq_getElem (by simp; omega)⟩
      have hc := (HB3.out.cell (p := ⟨gg, k, none⟩) HLT2.out).trans (HROW.out k p hp)
      have hpm : p ∈ tg :: ss := List.mem_of_getElem? hp
      have hpa : p.At wr B := ((List.mem_cons.1 hpm).elim (fun e => e ▸ HTG.out) (fun h => HSS.out p h)).below (HB2.out.trans (HB3.out.mono hz2))
      have HPA := Lib.hid hpa
      have hw1 : IntKind.i64.wrap ((k : Int) + 1) = (k : Int) + 1 := by rw [IntKind.wrap_i64] <;> omega
      clear hp hpm hpa
      go_wp2_with fail
      refine (right_ok wr p.b p.o p.c p.l (Utf8Tabs_below HT.out (HB2.out.trans (HB3.out.mono hz2))) HPA.out.at_ HPA.out.lt HPA.out.ok.len HPA.out.ok.ok HPA.out.ok.so).mono ?_
      rintro e w4 ⟨rfl, hb4⟩
      have HB4 := Lib.hid (HB3.out.trans (hb4.mono hz3))
      clear hb4
      go_wp2_with fail
      go_roundg (gk - 1)
      case measure => omega
      case rel => exact ⟨k + 1, by omega, by simp, HB4.out⟩
    · obtain rfl : gk = 0 := by omega
      have HBW := Lib.hid (HB2.out.trans (HB3.out.mono hz2) : Below w.heap.size w wr)
      have HRW := Lib.hid (H.out.below HBW.out)
      obtain ⟨cap, r0⟩ := HRW.out.cell
      clear HB3 HROW HNEWS HONE
      go_wp2_with fail
      go_step3
      go_wp2_with fail
      clear r0
      go_loopg [43, 13, 14] 1 (fun g i v13 v14 wx => (g = 1 ∧ i = .int .i64 0 ∧ v13 = .int .i64 (-1) ∧ v14 = .int .i64 (-1) ∧ wx = wr) ∨ (g = 0 ∧ i = .int .i64 1 ∧ v13 = .int .i64 (-1) ∧ v14 = .int .i64 (-1) ∧ r1 = -1 ∧ r2 = -1 ∧ But2 ms mt w wx ∧ RulesAt wx rb lb xs gs ms xt gt mt eb ec B s t cn))
      case atStart => exact .inl ⟨rfl, rfl, rfl, rfl, rfl⟩
      case round =>
        rcases hrel with ⟨rfl, rfl, rfl, rfl, rfl⟩ | ⟨rfl, rfl, rfl, rfl, rfl, rfl, hb, hR⟩
        · have l0 := HRW.out.l0
          have l1 := HRW.out.l1
          have l2 := HRW.out.l2
          have hlb : lb < wr.heap.size := by have := HRW.out.llt; have := HRW.out.rule.ls.le; omega
          have hlbn : ¬ lb = wr.heap.size := by omega
          have hBle := H.out.rule.ls.le
          have hzw := HBW.out.size
          have HW : Hid (∀ W, W = wr.alloc (.cells #[labelsFn xs, labelsFn xt, .slice (some ⟨eb, 0, none⟩) 1 ec] 90) → Below wr.heap.size wr W ∧ W.heap.size = wr.heap.size + 1 ∧ W.cell? ⟨wr.heap.size, 0, none⟩ = some (labelsFn xs) ∧ W.cell? ⟨wr.heap.size, 1, none⟩ = some (labelsFn xt) ∧ W.cell? ⟨wr.heap.size, 2, none⟩ = some (.slice (some ⟨eb, 0, none⟩) 1 ec)) := by
            rintro W rfl
            exact ⟨(Below.refl _ _).alloc (Nat.le_refl _) _, by simp, by simp, by simp, by simp⟩
          go_wp2_with fail
          generalize hWe : wr.alloc (.cells #[labelsFn xs, labelsFn xt, .slice (some ⟨eb, 0, none⟩) 1 ec] 90) = W at *
          obtain ⟨hbW, hszW, d0, d1, d2⟩ := HW.out W rfl
          have HRV := Lib.hid (HRW.out.below hbW)
          have HBV := Lib.hid (HBW.out.trans (hbW.mono hzw) : Below w.heap.size w W)
          have HD := Lib.hid (And.intro d0 (And.intro d1 d2))
          clear HW hWe hbW l0 l1 l2 d0 d1 d2
          generalize hCe : wr.heap.size = C at *
          clear hCe
          go_loopg [50, 13, 14] ss.length (fun g i v13 v14 wy => ∃ k, k + g = ss.length ∧ i = .int .i64 k ∧ v13 = .int .i64 (-1) ∧ v14 = .int .i64 (-1) ∧ byFrom (fun p => holdsB s t cn p.l tg.l) (ss.drop k) k = (r1, r2) ∧ But2 ms mt w wy ∧ But2 ms mt W wy ∧ RulesAt wy rb lb xs gs ms xt gt mt eb ec B s t cn)
          case atStart => exact ⟨0, by omega, rfl, rfl, rfl, by simpa using HR.out, .of HBV.out, But2.refl _ _ _, HRV.out⟩
          case round =>
            obtain ⟨k, hkg, rfl, rfl, rfl, hby, hb1, hb2, hru⟩ := hrel
            have HBY := Lib.hid hby
            have HK1 := Lib.hid hb1
            have HK2 := Lib.hid hb2
            have HRU := Lib.hid hru
            have hm1 := HRU.out.rule.ls.lt3
            have hm2 := HRU.out.rule.lt.lt3
            clear hby hb1 hb2 hru
            by_cases hlt : k < ss.length
            · obtain ⟨p, hp⟩ : ∃ p, ss[k]? = some p := ⟨_, List.getElem?_eq_getElem hlt⟩
              have hdr : ss.drop k = p :: ss.drop (k + 1) := by
                rw [List.drop_eq_getElem_cons hlt]
                congr
                rw [List.getElem?_eq_getElem hlt] at hp
                exact Option.some.inj hp
              have hby := HBY.out
              rw [hdr] at hby
              have HBZ := Lib.hid hby
              have hvc := (HK1.out.cell (p := ⟨vb, vo + k, none⟩) hvb (by show vb ≠ ms; omega) (by show vb ≠ mt; omega)).trans (HV.out k p hp)
              have HPA := Lib.hid ((HSS.out p (List.mem_of_getElem? hp)).but2 HK1.out hm1 hm2)
              have HTA := Lib.hid (HTG.out.but2 HK1.out hm1 hm2)
              have e0 := (HK2.out.cell (p := ⟨C, 0, none⟩) (by show C < W.heap.size; omega) (by show C ≠ ms; omega) (by show C ≠ mt; omega)).trans HD.out.1
              have e1 := (HK2.out.cell (p := ⟨C, 1, none⟩) (by show C < W.heap.size; omega) (by show C ≠ ms; omega) (by show C ≠ mt; omega)).trans HD.out.2.1
              have e2 := (HK2.out.cell (p := ⟨C, 2, none⟩) (by show C < W.heap.size; omega) (by show C ≠ ms; omega) (by show C ≠ mt; omega)).trans HD.out.2.2
              have hw1 : IntKind.i64.wrap ((k : Int) + 1) = (k : Int) + 1 := by rw [IntKind.wrap_i64] <;> omega
              have hz2 : 2 ≤ w.heap.size := by omega
              clear hp hdr hby
              go_wp2_with fail
              refine (holds_any _ xs gs ms xt gt mt eb ec B s t cn p.b p.o p.c tg.b tg.o tg.c p.l tg.l HRU.out.rule HPA.out.at_ HTA.out.at_ HPA.out.lt HTA.out.lt HPA.out.ge HTA.out.ge (by have := HPA.out.ok.len; omega) (by have := HTA.out.ok.len; omega) (tabs_but2 HT.out HK1.out h2 h3 hz2) h2 h3 HO.out.s HO.out.t).mono ?_
              rintro e w6 ⟨rfl, hb6, hr6⟩
              have HK6 := Lib.hid (HK1.out.trans hb6)
              have HK7 := Lib.hid (HK2.out.trans hb6)
              have HR6 := Lib.hid (HRU.out.asked hb6 hr6)
              clear hb6 hr6 e0 e1 e2 hvc
              obtain ⟨x, hx⟩ : ∃ x, holdsB s t cn p.l tg.l = x := ⟨_, rfl⟩
              rw [hx]
              cases x with
              | true =>
                have hrr : r1 = 0 ∧ r2 = (k : Int) := by
                  have := HBZ.out
                  simp only [byFrom, hx, if_true] at this
                  injection this with h1 h2
                  exact ⟨h1.symm, h2.symm⟩
                obtain ⟨rfl, rfl⟩ := hrr
                go_wp2_with fail
                rw [Exit.noGoto_ret]
                go_ret3
                exact ⟨rfl, HK6.out, HR6.out⟩
              | false =>
                have hrr : byFrom (fun p => holdsB s t cn p.l tg.l) (ss.drop (k + 1)) (k + 1) = (r1, r2) := by
                  have := HBZ.out
                  simpa [byFrom, hx] using this
                have HRR := Lib.hid hrr
                clear hrr hx
                go_wp2_with fail
                go_roundg (gk - 1)
                case measure => omega
                case rel => exact ⟨k + 1, by omega, by simp, rfl, rfl, HRR.out, HK6.out, HK7.out, HR6.out⟩
            · obtain rfl : gk = 0 := by omega
              have hrr : r1 = -1 ∧ r2 = -1 := by
                have := HBY.out
                rw [List.drop_of_length_le (by omega)] at this
                simp only [byFrom] at this
                injection this with h1 h2
                exact ⟨h1.symm, h2.symm⟩
              obtain ⟨rfl, rfl⟩ := hrr
              go_wp2_with fail
              go_roundg 0
              case measure => omega
              case rel => exact .inr ⟨rfl, rfl, rfl, rfl, trivial, trivial, HK1.out, HRU.out⟩
        · have HB := Lib.hid hb
          have HR2 := Lib.hid hR
          clear hb hR
          go_wp2_with fail
          go_ret3
          exact ⟨rfl, HB.out, HR2.out⟩

end Go.Proofs.YtjojhlkbcjhonaaDoor.Ih
