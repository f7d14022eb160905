/- Quoted texts, in plain Lean: how they are read, and what they match. -/
import Derived.Test.YtgcmjidphoklkaaGreatDoorRxP1
import Derived.Lib.MapLaws
import Derived.Lib.TrimAscii
namespace Go.Proofs.YtgcmjidphoklkaaGreatDoor.Rx
open Go.Lib

/-- A code point that has a form in UTF-8. -/
def Scalar (c : Int) : Prop := (0 ≤ c ∧ c < 55296) ∨ (57344 ≤ c ∧ c ≤ 1114111)

/-- A rune, quoted. -/
def qc (c : Int) : List UInt8 :=
  if c = 10 then [92, 110] else if c = 13 then [92, 114] else if c = 9 then [92, 116] else if signP c = true then 92 :: encodeRune c else encodeRune c
def quoteL : List Int → List UInt8
  | [] => []
  | c :: u => qc c ++ quoteL u
def encAll : List Int → List UInt8
  | [] => []
  | c :: u => encodeRune c ++ encAll u

theorem decodeN_scalar (n b0 b1 b2 b3 : Nat) (h0 : b0 < 256) : Scalar ((decodeN n b0 b1 b2 b3).1 : Int) := by
  unfold Scalar
  rcases decodeN_shape n b0 b1 b2 b3 with ⟨c, e⟩ | ⟨c1, c2, c3, cv, e⟩ | ⟨c1, c2, c3, c4, cv, cs, e⟩ | ⟨c1, c2, c3, c4, c5, cv, cw, e⟩ | e <;> rw [e] <;> dsimp only <;> omega

/-- What is written is read as it was. -/
theorem decodeL_encode (c : Int) (hc : Scalar c) (t : List UInt8) : decodeL (encodeRune c ++ t) = (c.toNat, (encodeRune c).length) := by
  rw [decodeL_N]
  have hb : ∀ z : Int, 0 ≤ z → z < 256 → (z.toNat.toUInt8).toNat = z.toNat := fun z h1 h2 => by
    simp only [Nat.toUInt8, UInt8.toNat_ofNat']
    omega
  unfold encodeRune
  rcases (show (0 ≤ c ∧ c ≤ 127) ∨ (128 ≤ c ∧ c ≤ 2047) ∨ ((2048 ≤ c ∧ c < 55296) ∨ (57343 < c ∧ c ≤ 65535)) ∨ (65536 ≤ c ∧ c ≤ 1114111) by unfold Scalar at hc; omega) with h | h | h | h
  · rw [encodeRuneZ_one h.1 h.2]
    simp only [List.map_cons, List.map_nil, List.cons_append, List.nil_append, List.getD_cons_zero, List.getD_cons_succ, List.length_cons, List.length_nil]
    rw [hb c (by omega) (by omega)]
    unfold decodeN
    rw [if_pos (by omega)]
  · rw [encodeRuneZ_two h.1 h.2]
    simp only [List.map_cons, List.map_nil, List.cons_append, List.nil_append, List.getD_cons_zero, List.getD_cons_succ, List.length_cons, List.length_nil]
    rw [hb (192 + c / 64) (by omega) (by omega), hb (128 + c % 64) (by omega) (by omega)]
    unfold decodeN
    rw [if_neg (by omega), if_pos ⟨by omega, by omega, by omega⟩, if_pos (by omega)]
    congr 1
    omega
  · rw [encodeRuneZ_three h]
    simp only [List.map_cons, List.map_nil, List.cons_append, List.nil_append, List.getD_cons_zero, List.getD_cons_succ, List.length_cons, List.length_nil]
    rw [hb (224 + c / 4096) (by omega) (by omega), hb (128 + c / 64 % 64) (by omega) (by omega), hb (128 + c % 64) (by omega) (by omega)]
    unfold decodeN
    rw [if_neg (by omega), if_neg (by omega), if_pos ⟨by omega, ⟨by omega, by omega⟩, by omega, by omega⟩, if_pos ⟨by omega, by omega⟩]
    congr 1
    omega
  · rw [encodeRuneZ_four h.1 h.2]
    simp only [List.map_cons, List.map_nil, List.cons_append, List.nil_append, List.getD_cons_zero, List.getD_cons_succ, List.length_cons, List.length_nil]
    rw [hb (240 + c / 262144) (by omega) (by omega), hb (128 + c / 4096 % 64) (by omega) (by omega), hb (128 + c / 64 % 64) (by omega) (by omega), hb (128 + c % 64) (by omega) (by omega)]
    unfold decodeN
    rw [if_neg (by omega), if_neg (by omega), if_neg (by omega), if_pos ⟨by omega, ⟨by omega, by omega⟩, ⟨by omega, by omega⟩, by omega, by omega⟩, if_pos ⟨by omega, by omega⟩]
    congr 1
    omega

/-- The first byte of what is written: below 128 the rune itself, else a byte above all signs. -/
theorem encode_head (c : Int) (hc : Scalar c) : ∃ b t, encodeRune c = b :: t ∧ ((c < 128 ∧ b.toNat = c.toNat ∧ t = []) ∨ (128 ≤ c ∧ 192 ≤ b.toNat)) := by
  have hb : ∀ z : Int, 0 ≤ z → z < 256 → (z.toNat.toUInt8).toNat = z.toNat := fun z h1 h2 => by
    simp only [Nat.toUInt8, UInt8.toNat_ofNat']
    omega
  unfold encodeRune
  rcases (show (0 ≤ c ∧ c ≤ 127) ∨ (128 ≤ c ∧ c ≤ 2047) ∨ ((2048 ≤ c ∧ c < 55296) ∨ (57343 < c ∧ c ≤ 65535)) ∨ (65536 ≤ c ∧ c ≤ 1114111) by unfold Scalar at hc; omega) with h | h | h | h
  · rw [encodeRuneZ_one h.1 h.2]
    exact ⟨_, _, rfl, .inl ⟨by omega, hb c (by omega) (by omega), rfl⟩⟩
  · rw [encodeRuneZ_two h.1 h.2]
    exact ⟨_, _, rfl, .inr ⟨by omega, by rw [hb _ (by omega) (by omega)]; omega⟩⟩
  · rw [encodeRuneZ_three h]
    exact ⟨_, _, rfl, .inr ⟨by omega, by rw [hb _ (by omega) (by omega)]; omega⟩⟩
  · rw [encodeRuneZ_four h.1 h.2]
    exact ⟨_, _, rfl, .inr ⟨by omega, by rw [hb _ (by omega) (by omega)]; omega⟩⟩

/-! ### places of a text that is given in pieces -/
theorem size_list (s : ByteArray) : s.size = s.data.toList.length := by rw [Array.length_toList]; rfl
theorem bt_list (s : ByteArray) (i : Nat) : bt s i = (s.data.toList.getD i 0).toNat := by
  unfold bt
  rw [getD_get!']

theorem peek_at {s : ByteArray} {l1 l2 : List UInt8} (h : s.data.toList = l1 ++ l2) (h2 : l2 ≠ []) : peekC s l1.length = ((decodeL l2).1 : Int) ∧ peekN s l1.length = (decodeL l2).2 := by
  have hs : l1.length < s.size := by
    rw [size_list, h, List.length_append]
    have := List.length_pos_iff.2 h2
    omega
  have hd : decodeL l2 = Utf8.decode s l1.length := by
    rw [← decodeL_drop, h, List.drop_left]
  unfold peekC peekN
  rw [if_pos hs, if_pos hs, hd]
  exact ⟨rfl, rfl⟩

theorem here_cons {s : ByteArray} {l1 t : List UInt8} {b : UInt8} (h : s.data.toList = l1 ++ (b :: t)) (c : Nat) : here s l1.length c = (b.toNat == c) := by
  have hs : l1.length < s.size := by
    rw [size_list, h, List.length_append, List.length_cons]
    omega
  have hb : bt s l1.length = b.toNat := by
    rw [bt_list, h]
    simp
  unfold here
  rw [hb]
  simp [hs]

/-- What begins so is no sign, but maybe a backslash. -/
def Calm (l : List UInt8) : Prop := ∀ b t, l = b :: t → b.toNat = 92 ∨ signP b.toNat = false

theorem here_calm {s : ByteArray} {l1 l2 : List UInt8} (h : s.data.toList = l1 ++ l2) (hc : Calm l2) {c : Nat} (h1 : signP c = true) (h2 : c ≠ 92) : here s l1.length c = false := by
  cases l2 with
  | nil => exact here_no (by rw [size_list, h, List.append_nil]; exact Nat.le_refl _)
  | cons b t =>
    rw [here_cons h]
    simp only [beq_eq_false_iff_ne, ne_eq]
    intro e
    rcases hc b t rfl with h3 | h3
    · omega
    · rw [e, h1] at h3; cases h3

theorem qc_calm (c : Int) (hc : Scalar c) (t : List UInt8) : Calm (qc c ++ t) := by
  intro b t' h
  unfold qc at h
  split at h
  · injection h with h _; left; rw [← h]; rfl
  split at h
  · injection h with h _; left; rw [← h]; rfl
  split at h
  · injection h with h _; left; rw [← h]; rfl
  split at h
  · injection h with h _; left; rw [← h]; rfl
  · rename_i hs
    obtain ⟨b0, t0, he, hx⟩ := encode_head c hc
    rw [he] at h
    injection h with h _
    subst h
    right
    rcases hx with ⟨h1, h2, _⟩ | ⟨_, h2⟩
    · have hc0 : 0 ≤ c := by unfold Scalar at hc; omega
      have : ((b0.toNat : Nat) : Int) = c := by omega
      rw [this]
      simpa using hs
    · simp only [signP, Bool.or_eq_false_iff, beq_eq_false_iff_ne, ne_eq]
      omega

theorem quote_calm : ∀ (u : List Int), (∀ c, c ∈ u → Scalar c) → Calm (quoteL u)
  | [], _ => fun b t h => by cases h
  | c :: u, h => qc_calm c (h c (by simp)) (quoteL u)

theorem qc_pos (c : Int) (hc : Scalar c) : 0 < (qc c).length := by
  unfold qc
  split
  · simp
  split
  · simp
  split
  · simp
  split
  · simp
  · obtain ⟨b, t, he, _⟩ := encode_head c hc
    rw [he]; simp

/-- One quoted rune is read as that rune. -/
theorem atom_quoted {s : ByteArray} {l1 l2 : List UInt8} {ch : Nat → PRes (Re × Nat)} {d : Nat} (c : Int) (hc : Scalar c) (h : s.data.toList = l1 ++ (qc c ++ l2)) :
    atomP s ch d l1.length = .ok ((onlyP c).re, l1.length + (qc c).length) := by
  have hne : qc c ++ l2 ≠ [] := by
    have := qc_pos c hc
    intro e
    rw [List.append_eq_nil_iff] at e
    rw [e.1] at this
    simp at this
  have hp := peek_at h hne
  -- behind a backslash
  have esc : ∀ (x : UInt8) (t : List UInt8), qc c = 92 :: x :: t → x.toNat < 128 → t = [] → (escapeP s l1.length = (.ok (onlyP c, l1.length + 2) : PRes (One × Nat))) → atomP s ch d l1.length = .ok ((onlyP c).re, l1.length + (qc c).length) := by
    intro x t e1 _ e2 e3
    have h92 : peekC s l1.length = 92 := by
      rw [hp.1, e1, show (92 :: x :: t) ++ l2 = 92 :: ((x :: t) ++ l2) from rfl, decodeL_ascii 92 _ (by decide)]
      rfl
    unfold atomP
    dsimp only
    rw [h92, if_neg (by decide), if_pos rfl, e3, e1, e2]
    rfl
  have nxt : ∀ (x : UInt8) (t : List UInt8), qc c = 92 :: x :: t → x.toNat < 128 → peekC s (l1.length + 1) = x.toNat ∧ peekN s (l1.length + 1) = 1 := by
    intro x t e1 hx
    have h' : s.data.toList = (l1 ++ [92]) ++ (x :: (t ++ l2)) := by rw [h, e1]; simp
    have := peek_at h' (by simp)
    rw [List.length_append, List.length_singleton, decodeL_ascii x (t ++ l2) hx] at this
    exact this
  by_cases h10 : c = 10
  · subst h10
    have e1 : qc 10 = 92 :: 110 :: [] := rfl
    refine esc 110 [] e1 (by decide) rfl ?_
    obtain ⟨a, b⟩ := nxt 110 [] e1 (by decide)
    unfold escapeP
    rw [a, b]
    rfl
  by_cases h13 : c = 13
  · subst h13
    have e1 : qc 13 = 92 :: 114 :: [] := rfl
    refine esc 114 [] e1 (by decide) rfl ?_
    obtain ⟨a, b⟩ := nxt 114 [] e1 (by decide)
    unfold escapeP
    rw [a, b]
    rfl
  by_cases h9 : c = 9
  · subst h9
    have e1 : qc 9 = 92 :: 116 :: [] := rfl
    refine esc 116 [] e1 (by decide) rfl ?_
    obtain ⟨a, b⟩ := nxt 116 [] e1 (by decide)
    unfold escapeP
    rw [a, b]
    rfl
  obtain ⟨b0, t0, he, hx⟩ := encode_head c hc
  by_cases hs : signP c = true
  · have hsmall : c < 128 ∧ c ≠ 110 ∧ c ≠ 114 ∧ c ≠ 116 ∧ c ≠ 100 ∧ c ≠ 119 ∧ c ≠ 115 ∧ c ≠ 68 ∧ c ≠ 87 ∧ c ≠ 83 ∧ c ≠ -1 := by
      simp only [signP, Bool.or_eq_true, beq_iff_eq] at hs
      omega
    rcases hx with ⟨h1, h2, h3⟩ | ⟨h1, _⟩
    · have hc0 : 0 ≤ c := by unfold Scalar at hc; omega
      have e1 : qc c = 92 :: b0 :: [] := by
        unfold qc
        rw [if_neg h10, if_neg h13, if_neg h9, if_pos hs, he, h3]
      have hb : ((b0.toNat : Nat) : Int) = c := by omega
      refine esc b0 [] e1 (by omega) rfl ?_
      obtain ⟨a, b⟩ := nxt b0 [] e1 (by omega)
      rw [hb] at a
      unfold escapeP
      rw [a, b]
      dsimp only
      rw [if_neg (by omega), if_neg (by omega), if_neg (by omega), if_neg (by omega), if_neg (by omega), if_neg (by omega), if_neg (by omega), if_neg (by omega), if_neg (by omega), if_neg (by omega), if_neg (fun hq => by rw [hs] at hq; cases hq.1)]
    · omega
  · have e1 : qc c = encodeRune c := by
      unfold qc
      rw [if_neg h10, if_neg h13, if_neg h9, if_neg hs]
    rw [e1, decodeL_encode c hc] at hp
    have hc0 : 0 ≤ c := by unfold Scalar at hc; omega
    have hpc : peekC s l1.length = c := by rw [hp.1]; omega
    have hns : c ≠ 46 ∧ c ≠ 92 ∧ c ≠ 91 ∧ c ≠ 40 := by
      simp only [signP, Bool.or_eq_true, beq_iff_eq] at hs
      omega
    unfold atomP
    dsimp only
    rw [hpc, if_neg hns.1, if_neg hns.2.1, if_neg hns.2.2.1, if_neg hns.2.2.2, if_neg hs, hp.2, e1]

def onesOf (u : List Int) : List Re := u.map fun c => (onlyP c).re

theorem item_quoted {s : ByteArray} {l1 l2 : List UInt8} {ch : Nat → PRes (Re × Nat)} {d : Nat} (c : Int) (hc : Scalar c) (h : s.data.toList = l1 ++ (qc c ++ l2)) (hl : Calm l2) :
    itemP s ch d l1.length = .ok ((onlyP c).re, l1.length + (qc c).length) := by
  have h' : s.data.toList = (l1 ++ qc c) ++ l2 := by rw [h, List.append_assoc]
  have hh : ∀ k : Nat, signP k = true → k ≠ 92 → here s (l1.length + (qc c).length) k = false := fun k h1 h2 => by
    have := here_calm h' hl h1 h2
    rwa [List.length_append] at this
  unfold itemP
  rw [atom_quoted c hc h]
  dsimp only
  unfold timesP
  rw [hh 42 rfl (by decide), hh 43 rfl (by decide), hh 63 rfl (by decide), hh 123 rfl (by decide)]
  rfl

theorem row_quoted {s : ByteArray} {ch : Nat → PRes (Re × Nat)} {d : Nat} : ∀ (u : List Int) (f : Nat) (acc : List Re) (l1 : List UInt8), (∀ c, c ∈ u → Scalar c) → u.length < f → s.data.toList = l1 ++ quoteL u →
    rowP s ch d f acc l1.length = .ok (.row (acc ++ onesOf u), s.size)
  | [], f + 1, acc, l1, _, _, h => by
    have hsz : s.size = l1.length := by rw [size_list, h]; simp [quoteL]
    have hg : goesOn s l1.length = false := by simp [goesOn, hsz]
    simp only [rowP]
    rw [if_neg (by rw [hg]; simp)]
    simp [onesOf, hsz]
  | c :: u, f + 1, acc, l1, hs, hf, h => by
    have hc := hs c (by simp)
    have hcu : ∀ x, x ∈ u → Scalar x := fun x hx => hs x (by simp [hx])
    have hcl := quote_calm (c :: u) hs
    have hg : goesOn s l1.length = true := by
      have hlt : l1.length < s.size := by
        have := qc_pos c hc
        rw [size_list, h]
        simp only [quoteL, List.length_append]
        omega
      simp only [goesOn, here_calm h hcl (c := 124) rfl (by decide), here_calm h hcl (c := 41) rfl (by decide), hlt, decide_true, Bool.not_false, Bool.and_self]
    simp only [rowP]
    rw [if_pos hg, item_quoted c hc h (quote_calm u hcu)]
    dsimp only
    have h' : s.data.toList = (l1 ++ qc c) ++ quoteL u := by rw [h, List.append_assoc]; rfl
    have := row_quoted (s := s) (ch := ch) (d := d) u f (acc ++ [(onlyP c).re]) (l1 ++ qc c) hcu (by simp at hf; omega) h'
    rw [List.length_append] at this
    rw [this]
    simp [onesOf]
  | _, 0, _, _, _, hf, _ => by omega

theorem quote_len : ∀ (u : List Int), (∀ c, c ∈ u → Scalar c) → u.length ≤ (quoteL u).length
  | [], _ => Nat.le_refl _
  | c :: u, h => by
    have := quote_len u (fun x hx => h x (by simp [hx]))
    have := qc_pos c (h c (by simp))
    simp only [quoteL, List.length_append, List.length_cons]
    omega

theorem whole_quoted {s : ByteArray} {u : List Int} (hu : ∀ c, c ∈ u → Scalar c) (h : s.data.toList = quoteL u) : wholeP s = .ok (.row (onesOf u)) := by
  have hl := quote_len u hu
  have hsz : s.size = (quoteL u).length := by rw [size_list, h]
  have hr : ∀ ch, rowP s ch 0 (s.size + 1) [] 0 = .ok (.row (onesOf u), s.size) := fun ch => by
    have := row_quoted (s := s) (ch := ch) (d := 0) u (s.size + 1) [] [] hu (by omega) (by simpa using h)
    simpa using this
  have hh : here s s.size 124 = false := here_no (Nat.le_refl _)
  have hc : choiceP s 51 0 0 = .ok (.row (onesOf u), s.size) := by
    have e1 : choiceP s 51 0 0 = (match rowP s (choiceP s 50 1) 0 (s.size + 1) [] 0 with
      | .error e => .error e
      | .ok (p, j) => forksP s (choiceP s 50 1) 0 (s.size + 1) p j) := rfl
    rw [e1, hr]
    dsimp only
    unfold forksP
    rw [hh]
    rfl
  unfold wholeP
  rw [hc]
  dsimp only
  rw [if_neg (Nat.lt_irrefl _)]

theorem cnt_ones : ∀ u : List Int, Re.cntL (onesOf u) = u.length
  | [] => rfl
  | c :: u => by
    have := cnt_ones u
    simp only [onesOf, List.map_cons, Re.cntL] at this ⊢
    rw [this]
    simp only [onlyP, One.re, Re.cnt, List.length_cons]
    omega

theorem compile_quoted {s : ByteArray} {u : List Int} (hs : s.size ≤ 256) (hu : ∀ c, c ∈ u → Scalar c) (h : s.data.toList = quoteL u) : compileP s = .ok (.row (onesOf u)) := by
  have hl := quote_len u hu
  have hsz : s.size = (quoteL u).length := by rw [size_list, h]
  unfold compileP
  rw [if_neg (by omega), whole_quoted hu h]
  dsimp only
  rw [if_neg]
  simp only [Re.cnt, cnt_ones]
  omega

theorem add_ones : ∀ (u : List Int) (x : Nat) (N : List Nd), (Re.addL (onesOf u) x N).2.length = N.length + u.length
  | [], x, N => by simp [onesOf, Re.addL]
  | c :: u, x, N => by
    have := add_ones u x N
    simp only [onesOf, List.map_cons, Re.addL] at this ⊢
    simp only [onlyP, One.re, Re.add, List.length_append, List.length_cons, List.length_nil] at this ⊢
    omega

theorem graph_ones (u : List Int) : (Re.graph (.row (onesOf u))).2.length ≤ 1 + u.length := by
  unfold Re.graph
  simp only [Re.add]
  split
  · simp
  · rw [add_ones]; simp

theorem L_ones : ∀ (u v : List Int), Re.LL (onesOf u) v ↔ v = u
  | [], v => by simp [onesOf, Re.LL]
  | c :: u, v => by
    simp only [onesOf, List.map_cons, Re.LL]
    constructor
    · rintro ⟨u1, u2, rfl, ⟨x, rfl, hx⟩, h⟩
      have := (L_ones u u2).1 h
      have hxc : x = c := by simpa [onlyP] using hx
      rw [this, hxc]
      rfl
    · rintro rfl
      exact ⟨[c], u, rfl, ⟨c, rfl, by simp [onlyP]⟩, (L_ones u u).2 rfl⟩

theorem L_row_ones (u v : List Int) : Re.L (.row (onesOf u)) v ↔ v = u := L_ones u v

end Go.Proofs.YtgcmjidphoklkaaGreatDoor.Rx
