/- Layer 5's law RegexQuotes. -/
import Derived.Test.YtjojhlkbcjhonaaDoorRxLb
import Derived.Test.YtjojhlkbcjhonaaDoorRxQd
import Derived.Test.YtjojhlkbcjhonaaDoorRxQe
namespace Go.Proofs.YtjojhlkbcjhonaaDoor.Rx
open Go.RowKit Go.Sort

theorem RegexAt.below {w w' : World} {rb : Nat} {r : Re} {c : P9} {K C : List Nat} {v : Value} {ns : List NdM} (h : RegexAt w rb r c K C v ns) (hb : Below w.heap.size w w') : RegexAt w' rb r c K C v ns where
  cells := h.cells.like (hb.block rb h.lt)
  part := h.part.like ⟨fun k hk => hb.block k (by have := h.low k hk; have := h.lt; omega), hb.size⟩
  low := h.low
  states := (hb.cell (p := ⟨rb, 9, none⟩) h.lt).trans h.states
  gr := h.gr.below hb h.lt
  nodes := h.nodes.like (fun k hk => hb.block k (by have := h.lt; omega)) hb.size
  first := (hb.cell (p := ⟨rb, 11, none⟩) h.lt).trans h.first
  lt := Nat.lt_of_lt_of_le h.lt hb.size

theorem rnAt_scalar (s : ByteArray) (c : Int) (h : c ∈ rnAt s 0) : Scalar c := rnF_scalar s _ 0 c h

theorem text_eq {s t : ByteArray} (h : s.data.toList = t.data.toList) : s = t := by
  cases s; cases t
  simp at h
  rw [h]

theorem Vd.zero {s : ByteArray} (h : Vd s 0) : encAll (rnAt s 0) = s.data.toList := by
  unfold Vd at h
  rw [h]; rfl

set_option maxHeartbeats 4000000 in
theorem law_quotes (w : World) (s t : ByteArray) (hT : Lib.Utf8Tabs 0 1 w) (h2 : 2 ≤ w.heap.size) (hs : s.size ≤ 1048576) (ht : t.size ≤ 1048576) :
    Calls Tryd.prog 8 #[.string s, .string t] w (fun e w' => e = .returned (.bool true) ∧ Below w.heap.size w w') := by
  have HT := Lib.hid hT
  clear hT
  go_enter Tryd.func8, Tryd.ntmps8
  go_wp2_with fail
  refine (quote_any w s hs).mono ?_
  rintro e w1 ⟨rfl, hb1⟩
  have HB1 := Lib.hid hb1
  have hz1 := hb1.size
  clear hb1
  have hql : (⟨(quoteL (rnAt s 0)).toArray⟩ : ByteArray).data.toList = quoteL (rnAt s 0) := rfl
  have hqs : (⟨(quoteL (rnAt s 0)).toArray⟩ : ByteArray).size = (quoteL (rnAt s 0)).length := by rw [size_list]
  have hsc := rnAt_scalar s
  have hul := quote_len (rnAt s 0) hsc
  have HSC := Lib.hid hsc
  have HQL := Lib.hid hql
  have HUL := Lib.hid hul
  have HQS := Lib.hid hqs
  clear hsc hql hul hqs
  generalize hu : rnAt s 0 = u at *
  have HU := Lib.hid hu
  clear hu
  generalize hq : (⟨(quoteL u).toArray⟩ : ByteArray) = q at *
  clear hq
  go_wp2_with fail
  have hT1 := Utf8Tabs_below HT.out HB1.out
  by_cases hbig : 256 < q.size
  · have hR : compileP q = .error (4, 0) := by unfold compileP; rw [if_pos hbig]
    refine (compile_any w1 q hT1 (by omega) (fun r h => by rw [hR] at h; cases h)).mono ?_
    rintro e w2 hr
    rw [hR] at hr
    obtain ⟨rfl, hb2⟩ := hr
    have HB2 := Lib.hid (HB1.out.trans (hb2.mono hz1))
    clear hb2 hT1 hR
    go_wp2_with fail
    refine (known_any w2 (Utf8Tabs_below HT.out HB2.out) (by have := HB2.out.size; omega)).mono ?_
    rintro e w3 ⟨rfl, hb3⟩
    have HB3 := Lib.hid (HB2.out.trans (hb3.mono HB2.out.size))
    clear hb3
    go_wp2_with fail
    go_ret
    exact ⟨rfl, HB3.out⟩
  have hR : compileP q = .ok (.row (onesOf u)) := compile_quoted (by omega) HSC.out HQL.out
  have hgl : (Re.graph (.row (onesOf u))).2.length ≤ 1000000 := by have := graph_ones u; have := HUL.out; have := HQS.out; omega
  refine (compile_any w1 q hT1 (by omega) (fun r h => by rw [hR] at h; cases h; exact hgl)).mono ?_
  rintro e w2 hr
  rw [hR] at hr
  obtain ⟨rb, c, K, C, v, ns, rfl, hA, hrb, hK, hb2⟩ := hr
  have HB2 := Lib.hid (HB1.out.trans (hb2.mono hz1))
  have HA := Lib.hid hA
  have HGL := Lib.hid hgl
  have HR := Lib.hid hR
  have hu256 : u.length ≤ 256 := by have := HUL.out; have := HQS.out; omega
  clear hb2 hT1 hR hA hK hgl
  go_wp2_with fail
  refine (utf8_any w2 s hs).mono ?_
  rintro e w3 ⟨rfl, b1, rfl, hv1⟩
  have HV1 := Lib.hid hv1
  clear hv1
  have HKN : Hid (∀ w4, Below w3.heap.size w3 w4 → Calls Tryd.prog 11 #[] w4 (fun e w' => e = .returned (.bool true) ∧ Below w.heap.size w w')) := fun w4 hb4 => by
    have hb := HB2.out.trans (hb4.mono HB2.out.size)
    refine (known_any w4 (Utf8Tabs_below HT.out hb) (by have := hb.size; omega)).mono ?_
    rintro e w5 ⟨rfl, hb5⟩
    exact ⟨rfl, hb.trans (hb5.mono hb.size)⟩
  cases b1 with
  | false =>
    go_wp2_with fail
    refine (HKN.out w3 (Below.refl _ _)).mono ?_
    rintro e w4 ⟨rfl, hb4⟩
    have HB4 := Lib.hid hb4
    clear hb4
    go_wp2_with fail
    go_ret
    exact ⟨rfl, HB4.out⟩
  | true =>
    go_wp2_with fail
    refine (utf8_any w3 t ht).mono ?_
    rintro e w4 ⟨rfl, b2, rfl, hv2⟩
    have HV2 := Lib.hid hv2
    clear hv2
    cases b2 with
    | false =>
      go_wp2_with fail
      refine (HKN.out w4 (Below.refl _ _)).mono ?_
      rintro e w5 ⟨rfl, hb5⟩
      have HB5 := Lib.hid hb5
      clear hb5
      go_wp2_with fail
      go_ret
      exact ⟨rfl, HB5.out⟩
    | true =>
      have hes : encAll u = s.data.toList := by have := (HV1.out trivial).zero; rwa [HU.out] at this
      have het := (HV2.out rfl).zero
      have hst : (⟨(encAll u).toArray⟩ : ByteArray) = s := text_eq (by rw [← hes])
      have HST := Lib.hid hst
      have HES := Lib.hid hes
      have HET := Lib.hid het
      clear hes het hst
      go_wp2_with fail
      refine (literal_any w4 rb u c K C v ns HA.out HSC.out hu256).mono ?_
      rintro e w5 ⟨rfl, hb5⟩
      rw [HST.out]
      have HB5 := Lib.hid hb5
      clear hb5
      go_wp2_with fail
      refine (match_any w5 rb _ c K C v ns (HA.out.below HB5.out) (compileP_wf HR.out) s HGL.out).mono ?_
      rintro e w6 ⟨hb6, b3, rfl, hm3⟩
      obtain rfl : b3 = true := hm3.2 ((L_row_ones u _).2 HU.out)
      have HB6 := Lib.hid (HB5.out.trans (hb6.mono HB5.out.size))
      clear hb6 hm3
      go_wp2_with fail
      refine (match_any w6 rb _ c K C v ns (HA.out.below HB6.out) (compileP_wf HR.out) t HGL.out).mono ?_
      rintro e w7 ⟨hb7, b4, rfl, hm4⟩
      have HB7 := Lib.hid (HB6.out.trans (hb7.mono HB6.out.size))
      have HM4 := Lib.hid hm4
      clear hb7 hm4
      by_cases hst : s = t
      · have hb : b4 = true := by
          refine HM4.out.2 ((L_row_ones u _).2 ?_)
          rw [← hst]; exact HU.out
        subst hb
        subst hst
        clear HM4
        go_wp2_with fail
        refine (HKN.out w7 HB7.out).mono ?_
        rintro e w8 ⟨rfl, hb8⟩
        have HB8 := Lib.hid hb8
        clear hb8
        go_wp2_with fail
        go_ret
        exact ⟨rfl, HB8.out⟩
      · have hb : b4 = false := by
          cases b4 with
          | false => rfl
          | true =>
            exfalso
            have h1 := (L_row_ones u _).1 (HM4.out.1 rfl)
            apply hst
            apply text_eq
            rw [← HES.out, ← HET.out, h1]
        subst hb
        clear HM4
        have htl : ¬ s.toList = t.toList := fun h => hst (text_eq (by rwa [Lib.toList_data, Lib.toList_data] at h))
        go_wp2_with fail
        refine (HKN.out w7 HB7.out).mono ?_
        rintro e w8 ⟨rfl, hb8⟩
        have HB8 := Lib.hid hb8
        clear hb8
        go_wp2_with fail
        go_ret
        refine ⟨?_, HB8.out⟩
        show Ending.returned (Value.bool (!(s.toList == t.toList))) = _
        rw [beq_eq_false_iff_ne.2 htl]
        rfl

end Go.Proofs.YtjojhlkbcjhonaaDoor.Rx
