/- The plain theory of layer 5: parts of expressions, their languages, the graph that is built of them, and that the graph accepts just the language. -/
import GoSem.Core.Utf8
namespace Go.Proofs.YtgcmjidphoklkaaGreatDoor.Rx

/-- Parts of expressions: a rune of a set (it may stand for itself), parts in a row, one of two, a part so many times. -/
inductive Re where
  | one (p : Int → Bool) (plain : Option Int)
  | row (l : List Re)
  | fork (a b : Re)
  | loop (k : Re) (least most : Int) (brace : Bool)

/-- `j` times. -/
def Rep (P : List Int → Prop) : Nat → List Int → Prop
  | 0, u => u = []
  | j + 1, u => ∃ u1 u2, u = u1 ++ u2 ∧ P u1 ∧ Rep P j u2

mutual
def Re.L : Re → List Int → Prop
  | .one p _, u => ∃ c, u = [c] ∧ p c = true
  | .row l, u => Re.LL l u
  | .fork a b, u => Re.L a u ∨ Re.L b u
  | .loop k m n _, u => ∃ j : Nat, m ≤ (j : Int) ∧ (n < 0 ∨ (j : Int) ≤ n) ∧ Rep (Re.L k) j u
def Re.LL : List Re → List Int → Prop
  | [], u => u = []
  | r :: l, u => ∃ u1 u2, u = u1 ++ u2 ∧ Re.L r u1 ∧ Re.LL l u2
end

mutual
def Re.cnt : Re → Int
  | .one _ _ => 1
  | .row l => min (Re.cntL l) 2001
  | .fork a b => min (Re.cnt a + Re.cnt b) 2001
  | .loop k m n b => min (if b = false then Re.cnt k + 1 else if n < 0 then Re.cnt k * (m + 1) + 1 else Re.cnt k * n + 1) 2001
def Re.cntL : List Re → Int
  | [] => 0
  | r :: l => Re.cnt r + Re.cntL l
end

mutual
def Re.WF : Re → Prop
  | .one _ _ => True
  | .row l => Re.WFL l
  | .fork a b => Re.WF a ∧ Re.WF b
  | .loop k m n b => Re.WF k ∧ 0 ≤ m ∧ (n = -1 ∨ m ≤ n) ∧ m ≤ 99 ∧ n ≤ 99 ∧ (b = false → n = -1 ∨ n = 1)
def Re.WFL : List Re → Prop
  | [] => True
  | r :: l => Re.WF r ∧ Re.WFL l
end

mutual
theorem Re.cnt_bd : ∀ r : Re, Re.WF r → 0 ≤ Re.cnt r ∧ Re.cnt r ≤ 2001
  | .one _ _, _ => by simp [Re.cnt]
  | .row l, h => by
    have := Re.cntL_bd l h
    simp only [Re.cnt]; omega
  | .fork a b, h => by
    have h1 := Re.cnt_bd a h.1
    have h2 := Re.cnt_bd b h.2
    simp only [Re.cnt]; omega
  | .loop k m n b, h => by
    obtain ⟨hk, hm, hn, _, _, _⟩ := h
    have h1 := Re.cnt_bd k hk
    have a1 : 0 ≤ Re.cnt k * (m + 1) := Int.mul_nonneg h1.1 (by omega)
    by_cases hn0 : n < 0
    · simp only [Re.cnt, hn0, if_true]; split <;> omega
    · have a2 : 0 ≤ Re.cnt k * n := Int.mul_nonneg h1.1 (by omega)
      simp only [Re.cnt, hn0, if_false]; split <;> omega
theorem Re.cntL_bd : ∀ l : List Re, Re.WFL l → 0 ≤ Re.cntL l
  | [], _ => by simp [Re.cntL]
  | r :: l, h => by
    have h1 := Re.cnt_bd r h.1
    have h2 := Re.cntL_bd l h.2
    simp only [Re.cntL]; omega
end

theorem Rep.eps {P : List Int → Prop} (hP : ∀ u, P u ↔ u = []) : ∀ (j : Nat) (u : List Int), Rep P j u ↔ u = []
  | 0, u => Iff.rfl
  | j + 1, u => by
    simp only [Rep]
    constructor
    · rintro ⟨u1, u2, rfl, h1, h2⟩
      rw [(hP u1).1 h1, (Rep.eps hP j u2).1 h2]; rfl
    · rintro rfl
      exact ⟨[], [], rfl, (hP []).2 rfl, (Rep.eps hP j []).2 rfl⟩

mutual
/-- What has no states matches just the empty text. -/
theorem Re.L_eps : ∀ r : Re, Re.WF r → Re.cnt r = 0 → ∀ u, Re.L r u ↔ u = []
  | .one _ _, _, h, _ => by simp [Re.cnt] at h
  | .row l, hw, h, u => by
    have hb := Re.cntL_bd l hw
    exact Re.LL_eps l hw (by simp only [Re.cnt] at h; omega) u
  | .fork a b, hw, h, u => by
    have h1 := Re.cnt_bd a hw.1
    have h2 := Re.cnt_bd b hw.2
    simp only [Re.cnt] at h
    simp only [Re.L, Re.L_eps a hw.1 (by omega) u, Re.L_eps b hw.2 (by omega) u, or_self]
  | .loop k m n b, hw, h, u => by
    obtain ⟨hk, hm, hn, _, _, _⟩ := hw
    have h1 := Re.cnt_bd k hk
    have a1 : 0 ≤ Re.cnt k * (m + 1) := Int.mul_nonneg h1.1 (by omega)
    by_cases hn0 : n < 0
    · simp only [Re.cnt, hn0, if_true] at h; split at h <;> omega
    · have a2 : 0 ≤ Re.cnt k * n := Int.mul_nonneg h1.1 (by omega)
      simp only [Re.cnt, hn0, if_false] at h; split at h <;> omega
theorem Re.LL_eps : ∀ l : List Re, Re.WFL l → Re.cntL l = 0 → ∀ u, Re.LL l u ↔ u = []
  | [], _, _, u => by simp [Re.LL]
  | r :: l, hw, h, u => by
    have h1 := Re.cnt_bd r hw.1
    have h2 := Re.cntL_bd l hw.2
    simp only [Re.cntL] at h
    simp only [Re.LL]
    constructor
    · rintro ⟨u1, u2, rfl, a, b⟩
      rw [(Re.L_eps r hw.1 (by omega) u1).1 a, (Re.LL_eps l hw.2 (by omega) u2).1 b]; rfl
    · rintro rfl
      exact ⟨[], [], rfl, (Re.L_eps r hw.1 (by omega) []).2 rfl, (Re.LL_eps l hw.2 (by omega) []).2 rfl⟩
end

theorem Re.L_loop_eps {k : Re} {m n : Int} {b : Bool} (hw : Re.WF (.loop k m n b)) (h : Re.cnt k = 0) (u : List Int) : Re.L (.loop k m n b) u ↔ u = [] := by
  obtain ⟨hk, hm, hn, _, _, _⟩ := hw
  simp only [Re.L]
  constructor
  · rintro ⟨j, _, _, hr⟩; exact (Rep.eps (Re.L_eps k hk h) j u).1 hr
  · rintro rfl
    refine ⟨m.toNat, by omega, ?_, (Rep.eps (Re.L_eps k hk h) _ _).2 rfl⟩
    rcases hn with h | h
    · left; omega
    · right; omega

/-- Nodes of the graph: a rune that leads on, or two ways. The first node is the end. -/
inductive Nd where
  | rune (p : Int → Bool) (a : Nat)
  | ways (a b : Nat)

def iter (f : Nat → List Nd → Nat × List Nd) : Nat → Nat × List Nd → Nat × List Nd
  | 0, x => x
  | j + 1, x => iter f j (f x.1 x.2)

/-- One more time, or not. -/
def optional (f : Nat → List Nd → Nat × List Nd) (next : Nat) (at_ : Nat) (N : List Nd) : Nat × List Nd :=
  ((f at_ N).2.length, (f at_ N).2 ++ [.ways (f at_ N).1 next])

def star (f : Nat → List Nd → Nat × List Nd) (next : Nat) (N : List Nd) : Nat × List Nd :=
  (N.length, ((f N.length (N ++ [.ways 0 next])).2).set N.length (.ways (f N.length (N ++ [.ways 0 next])).1 next))

mutual
def Re.add : Re → Nat → List Nd → Nat × List Nd
  | .one p _, next, N => (N.length, N ++ [.rune p next])
  | .row l, next, N => if Re.cnt (.row l) = 0 then (next, N) else Re.addL l next N
  | .fork a b, next, N =>
    if Re.cnt (.fork a b) = 0 then (next, N) else
    ((Re.add b next (Re.add a next N).2).2.length, (Re.add b next (Re.add a next N).2).2 ++ [.ways (Re.add a next N).1 (Re.add b next (Re.add a next N).2).1])
  | .loop k m n _, next, N =>
    if Re.cnt k = 0 then (next, N) else
    iter (Re.add k) m.toNat (iter (optional (Re.add k) next) (n - m).toNat (if n < 0 then star (Re.add k) next N else (next, N)))
def Re.addL : List Re → Nat → List Nd → Nat × List Nd
  | [], next, N => (next, N)
  | r :: l, next, N => Re.add r (Re.addL l next N).1 (Re.addL l next N).2
end

/-- A text is accepted from a node on, by a way of so many steps. -/
inductive AccN (G : List Nd) : Nat → Nat → List Int → Prop where
  | fin : AccN G 0 0 []
  | rune {m x a : Nat} {p : Int → Bool} {c : Int} {u : List Int} : x ≠ 0 → G[x]? = some (.rune p a) → p c = true → AccN G m a u → AccN G (m + 1) x (c :: u)
  | wayA {m x a b : Nat} {u : List Int} : x ≠ 0 → G[x]? = some (.ways a b) → AccN G m a u → AccN G (m + 1) x u
  | wayB {m x a b : Nat} {u : List Int} : x ≠ 0 → G[x]? = some (.ways a b) → AccN G m b u → AccN G (m + 1) x u

def Acc (G : List Nd) (x : Nat) (u : List Int) : Prop := ∃ m, AccN G m x u

theorem Acc.rune {G : List Nd} {x a : Nat} {p : Int → Bool} {c : Int} {u : List Int} (h0 : x ≠ 0) (hx : G[x]? = some (.rune p a)) (hp : p c = true) : Acc G a u → Acc G x (c :: u) :=
  fun ⟨m, h⟩ => ⟨m + 1, .rune h0 hx hp h⟩
theorem Acc.wayA {G : List Nd} {x a b : Nat} {u : List Int} (h0 : x ≠ 0) (hx : G[x]? = some (.ways a b)) : Acc G a u → Acc G x u :=
  fun ⟨m, h⟩ => ⟨m + 1, .wayA h0 hx h⟩
theorem Acc.wayB {G : List Nd} {x a b : Nat} {u : List Int} (h0 : x ≠ 0) (hx : G[x]? = some (.ways a b)) : Acc G b u → Acc G x u :=
  fun ⟨m, h⟩ => ⟨m + 1, .wayB h0 hx h⟩

theorem AccN.inv_rune {G : List Nd} {m x a : Nat} {p : Int → Bool} {u : List Int} (h : AccN G m x u) (h0 : x ≠ 0) (hx : G[x]? = some (.rune p a)) :
    ∃ m' c v, m = m' + 1 ∧ u = c :: v ∧ p c = true ∧ AccN G m' a v := by
  cases h with
  | fin => exact absurd rfl h0
  | rune _ hx' hp h' => rw [hx] at hx'; cases hx'; exact ⟨_, _, _, rfl, rfl, hp, h'⟩
  | wayA _ hx' _ => rw [hx] at hx'; cases hx'
  | wayB _ hx' _ => rw [hx] at hx'; cases hx'
theorem AccN.inv_ways {G : List Nd} {m x a b : Nat} {u : List Int} (h : AccN G m x u) (h0 : x ≠ 0) (hx : G[x]? = some (.ways a b)) :
    ∃ m', m = m' + 1 ∧ (AccN G m' a u ∨ AccN G m' b u) := by
  cases h with
  | fin => exact absurd rfl h0
  | rune _ hx' _ _ => rw [hx] at hx'; cases hx'
  | wayA _ hx' h' => rw [hx] at hx'; cases hx'; exact ⟨_, rfl, .inl h'⟩
  | wayB _ hx' h' => rw [hx] at hx'; cases hx'; exact ⟨_, rfl, .inr h'⟩

/-- The graph G is as N from node lo on, as far as N goes. -/
def Agree (G N : List Nd) (lo : Nat) : Prop := ∀ i : Nat, lo ≤ i → i < N.length → G[i]? = N[i]?

theorem Agree.sub {G N N' : List Nd} {lo lo' : Nat} (h : Agree G N' lo) (hl : lo ≤ lo') (hlen : N.length ≤ N'.length) (hs : ∀ i : Nat, lo' ≤ i → i < N.length → N'[i]? = N[i]?) : Agree G N lo' :=
  fun i h1 h2 => by rw [h i (by omega) (by omega), hs i h1 h2]

/-- What a piece of graph, built behind N, does: it is entered at x, left at next, and reads P between. -/
structure Piece (P : List Int → Prop) (next : Nat) (N : List Nd) (x : Nat) (N' : List Nd) : Prop where
  len : N.length ≤ N'.length
  old : ∀ i : Nat, i < N.length → N'[i]? = N[i]?
  inside : next < N.length → x < N'.length
  far : (∀ (i : Nat) (p : Int → Bool) (a : Nat), N[i]? = some (Nd.rune p a) → a < N.length) → (∀ i a b : Nat, N[i]? = some (Nd.ways a b) → a < N.length ∧ b < N.length) → next < N.length →
    (∀ (i : Nat) (p : Int → Bool) (a : Nat), N'[i]? = some (Nd.rune p a) → a < N'.length) ∧ (∀ i a b : Nat, N'[i]? = some (Nd.ways a b) → a < N'.length ∧ b < N'.length)
  reads : N ≠ [] → ∀ G, Agree G N' N.length → ∀ m u, AccN G m x u → ∃ u1 u2 m', u = u1 ++ u2 ∧ P u1 ∧ AccN G m' next u2 ∧ m' ≤ m
  takes : N ≠ [] → ∀ G, Agree G N' N.length → ∀ u1 u2, P u1 → Acc G next u2 → Acc G x (u1 ++ u2)

theorem Piece.nothing {P : List Int → Prop} (hP : ∀ u, P u ↔ u = []) (next : Nat) (N : List Nd) : Piece P next N next N where
  len := Nat.le_refl _
  old := fun _ _ => rfl
  inside := id
  far := fun h1 h2 _ => ⟨h1, h2⟩
  reads := fun _ G _ m u h => ⟨[], u, m, rfl, (hP []).2 rfl, h, Nat.le_refl _⟩
  takes := fun _ G _ u1 u2 h1 h2 => by rw [(hP u1).1 h1]; exact h2

theorem Piece.congr {P Q : List Int → Prop} {next x : Nat} {N N' : List Nd} (h : Piece P next N x N') (e : ∀ u, P u ↔ Q u) : Piece Q next N x N' where
  len := h.len
  old := h.old
  inside := h.inside
  far := h.far
  reads := fun hN G hG m u ha => by
    obtain ⟨u1, u2, m', e1, e2, e3, e4⟩ := h.reads hN G hG m u ha
    exact ⟨u1, u2, m', e1, (e u1).1 e2, e3, e4⟩
  takes := fun hN G hG u1 u2 h1 h2 => h.takes hN G hG u1 u2 ((e u1).2 h1) h2

theorem ne_nil_of_len {N N' : List Nd} (h : N ≠ []) (hl : N.length ≤ N'.length) : N' ≠ [] := by
  intro e; subst e; cases N with
  | nil => exact h rfl
  | cons a l => simp at hl

/-- Two pieces behind one another: the one that is read first is built last. -/
theorem Piece.seq {P Q : List Int → Prop} {next y x : Nat} {N N1 N2 : List Nd} (h1 : Piece Q next N y N1) (h2 : Piece P y N1 x N2) :
    Piece (fun u => ∃ u1 u2, u = u1 ++ u2 ∧ P u1 ∧ Q u2) next N x N2 where
  len := Nat.le_trans h1.len h2.len
  old := fun i hi => by rw [h2.old i (by have := h1.len; omega), h1.old i hi]
  inside := fun hn => h2.inside (h1.inside hn)
  far := fun a b hn => by
    obtain ⟨a1, b1⟩ := h1.far a b hn
    exact h2.far a1 b1 (h1.inside hn)
  reads := fun hN G hG m u ha => by
    have hG2 : Agree G N2 N1.length := fun i hi hl => hG i (by have := h1.len; omega) hl
    have hG1 : Agree G N1 N.length := hG.sub (Nat.le_refl _) h2.len (fun i _ hl => h2.old i hl)
    obtain ⟨u1, u2, m1, rfl, p1, a1, l1⟩ := h2.reads (ne_nil_of_len hN h1.len) G hG2 m u ha
    obtain ⟨u3, u4, m2, rfl, p2, a2, l2⟩ := h1.reads hN G hG1 m1 u2 a1
    exact ⟨u1 ++ u3, u4, m2, by simp, ⟨u1, u3, rfl, p1, p2⟩, a2, by omega⟩
  takes := fun hN G hG u1 u2 hp ha => by
    have hG2 : Agree G N2 N1.length := fun i hi hl => hG i (by have := h1.len; omega) hl
    have hG1 : Agree G N1 N.length := hG.sub (Nat.le_refl _) h2.len (fun i _ hl => h2.old i hl)
    obtain ⟨v1, v2, rfl, p1, p2⟩ := hp
    rw [List.append_assoc]
    exact h2.takes (ne_nil_of_len hN h1.len) G hG2 v1 _ p1 (h1.takes hN G hG1 v2 u2 p2 ha)

theorem get_snoc (N : List Nd) (d : Nd) : (N ++ [d])[N.length]? = some d := by simp
theorem get_snoc_lt (N : List Nd) (d : Nd) (i : Nat) (h : i < N.length) : (N ++ [d])[i]? = N[i]? := by
  rw [List.getElem?_append_left h]
theorem snoc_cases {N : List Nd} {d e : Nd} {i : Nat} (h : (N ++ [d])[i]? = some e) : N[i]? = some e ∨ (i = N.length ∧ d = e) := by
  by_cases hi : i < N.length
  · rw [get_snoc_lt N d i hi] at h; exact .inl h
  · by_cases hi' : i = N.length
    · subst hi'; rw [get_snoc] at h; cases h; exact .inr ⟨rfl, rfl⟩
    · rw [List.getElem?_eq_none (by simp; omega)] at h; cases h

theorem Piece.one (p : Int → Bool) (next : Nat) (N : List Nd) : Piece (fun u => ∃ c, u = [c] ∧ p c = true) next N N.length (N ++ [.rune p next]) where
  len := by simp
  old := fun i hi => get_snoc_lt N _ i hi
  inside := fun _ => by simp
  far := fun h1 h2 hn => by
    constructor
    · intro i q a h
      rcases snoc_cases h with h | ⟨_, h⟩
      · have := h1 i q a h; simp; omega
      · cases h; simp; omega
    · intro i a b h
      rcases snoc_cases h with h | ⟨_, h⟩
      · have := h2 i a b h; simp; omega
      · cases h
  reads := fun hN G hG m u ha => by
    have h0 : N.length ≠ 0 := by intro e; exact hN (List.length_eq_zero_iff.1 e)
    have hx : G[N.length]? = some (.rune p next) := by rw [hG _ (Nat.le_refl _) (by simp), get_snoc]
    obtain ⟨m', c, v, rfl, rfl, hp, h'⟩ := ha.inv_rune h0 hx
    exact ⟨[c], v, m', rfl, ⟨c, rfl, hp⟩, h', by omega⟩
  takes := fun hN G hG u1 u2 hp ha => by
    have h0 : N.length ≠ 0 := by intro e; exact hN (List.length_eq_zero_iff.1 e)
    have hx : G[N.length]? = some (.rune p next) := by rw [hG _ (Nat.le_refl _) (by simp), get_snoc]
    obtain ⟨c, rfl, hp⟩ := hp
    exact Acc.rune h0 hx hp ha

/-- Two pieces to one end, and a node that leads to both. -/
theorem Piece.fork {P Q : List Int → Prop} {next x y : Nat} {N N1 N2 : List Nd} (h1 : Piece P next N x N1) (h2 : Piece Q next N1 y N2) :
    Piece (fun u => P u ∨ Q u) next N N2.length (N2 ++ [.ways x y]) where
  len := by have := h1.len; have := h2.len; simp; omega
  old := fun i hi => by
    have := h1.len; have := h2.len
    rw [get_snoc_lt _ _ _ (by omega), h2.old i (by omega), h1.old i hi]
  inside := fun _ => by simp
  far := fun a b hn => by
    have l1 := h1.len; have l2 := h2.len
    obtain ⟨a1, b1⟩ := h1.far a b hn
    obtain ⟨a2, b2⟩ := h2.far a1 b1 (by omega)
    have ix := h1.inside hn
    have iy := h2.inside (by omega)
    constructor
    · intro i q c h
      rcases snoc_cases h with h | ⟨_, h⟩
      · have := a2 i q c h; simp; omega
      · cases h
    · intro i c d h
      rcases snoc_cases h with h | ⟨_, h⟩
      · have := b2 i c d h; simp; omega
      · cases h; simp; omega
  reads := fun hN G hG m u ha => by
    have l1 := h1.len; have l2 := h2.len
    have h0 : N2.length ≠ 0 := by intro e; exact hN (List.length_eq_zero_iff.1 (by omega))
    have hx : G[N2.length]? = some (.ways x y) := by rw [hG _ (by omega) (by simp), get_snoc]
    have hG2 : Agree G N2 N1.length := hG.sub (by omega) (by simp) (fun i _ hl => get_snoc_lt _ _ _ hl)
    have hG1 : Agree G N1 N.length := hG.sub (by omega) (by simp; omega) (fun i _ hl => by rw [get_snoc_lt _ _ _ (by omega), h2.old i hl])
    obtain ⟨m', rfl, h | h⟩ := ha.inv_ways h0 hx
    · obtain ⟨u1, u2, m1, e, p, a, l⟩ := h1.reads hN G hG1 m' u h
      exact ⟨u1, u2, m1, e, .inl p, a, by omega⟩
    · obtain ⟨u1, u2, m1, e, p, a, l⟩ := h2.reads (ne_nil_of_len hN h1.len) G hG2 m' u h
      exact ⟨u1, u2, m1, e, .inr p, a, by omega⟩
  takes := fun hN G hG u1 u2 hp ha => by
    have l1 := h1.len; have l2 := h2.len
    have h0 : N2.length ≠ 0 := by intro e; exact hN (List.length_eq_zero_iff.1 (by omega))
    have hx : G[N2.length]? = some (.ways x y) := by rw [hG _ (by omega) (by simp), get_snoc]
    have hG2 : Agree G N2 N1.length := hG.sub (by omega) (by simp) (fun i _ hl => get_snoc_lt _ _ _ hl)
    have hG1 : Agree G N1 N.length := hG.sub (by omega) (by simp; omega) (fun i _ hl => by rw [get_snoc_lt _ _ _ (by omega), h2.old i hl])
    rcases hp with hp | hp
    · exact Acc.wayA h0 hx (h1.takes hN G hG1 u1 u2 hp ha)
    · exact Acc.wayB h0 hx (h2.takes (ne_nil_of_len hN h1.len) G hG2 u1 u2 hp ha)

/-- What builds a piece, wherever it is asked. -/
def Builds (P : List Int → Prop) (f : Nat → List Nd → Nat × List Nd) : Prop := ∀ next N, Piece P next N (f next N).1 (f next N).2

/-- So many times, behind what is there: Q is what stands behind. -/
theorem iter_piece {P : List Int → Prop} {f : Nat → List Nd → Nat × List Nd} (hf : Builds P f) {next : Nat} {N : List Nd} :
    ∀ (j : Nat) (Q : List Int → Prop) (x : Nat × List Nd), Piece Q next N x.1 x.2 →
      Piece (fun u => ∃ u1 u2, u = u1 ++ u2 ∧ Rep P j u1 ∧ Q u2) next N (iter f j x).1 (iter f j x).2
  | 0, Q, x, h => h.congr (fun u => ⟨fun hq => ⟨[], u, rfl, rfl, hq⟩, by rintro ⟨u1, u2, rfl, h1, hq⟩; cases h1; exact hq⟩)
  | j + 1, Q, x, h => by
    have h1 := h.seq (hf x.1 x.2)
    have h2 := iter_piece hf j _ (f x.1 x.2) h1
    refine h2.congr (fun u => ?_)
    constructor
    · rintro ⟨u1, u2, rfl, hr, v1, v2, rfl, hp, hq⟩
      refine ⟨u1 ++ v1, v2, by simp, ?_, hq⟩
      clear hq h2 h1 h
      induction j generalizing u1 with
      | zero => cases hr; exact ⟨v1, [], by simp, hp, rfl⟩
      | succ j ih =>
        obtain ⟨w1, w2, rfl, hw, hr⟩ := hr
        exact ⟨w1, w2 ++ v1, by simp, hw, ih w2 hr⟩
    · rintro ⟨u1, u2, rfl, hr, hq⟩
      clear h2 h1 h
      induction j generalizing u1 with
      | zero =>
        obtain ⟨v1, v2, rfl, hp, hr⟩ := hr
        cases hr
        exact ⟨[], v1 ++ u2, by simp, rfl, v1, u2, rfl, hp, hq⟩
      | succ j ih =>
        obtain ⟨w1, w2, rfl, hw, hr⟩ := hr
        obtain ⟨a1, a2, e, ha, b1, b2, rfl, hb, hq'⟩ := ih w2 hr
        exact ⟨w1 ++ a1, b1 ++ b2, by rw [List.append_assoc, e, List.append_assoc], ⟨w1, a1, rfl, hw, ha⟩, b1, b2, rfl, hb, hq'⟩

/-- One more time, or not at all. -/
theorem optional_piece {P Q : List Int → Prop} {f : Nat → List Nd → Nat × List Nd} (hf : Builds P f) {next : Nat} {N : List Nd} {x : Nat × List Nd} (h : Piece Q next N x.1 x.2) :
    Piece (fun u => (∃ u1 u2, u = u1 ++ u2 ∧ P u1 ∧ Q u2) ∨ u = []) next N (optional f next x.1 x.2).1 (optional f next x.1 x.2).2 := by
  have h1 := h.seq (hf x.1 x.2)
  have h2 := h1.fork (Piece.nothing (P := fun u => u = []) (fun _ => Iff.rfl) next (f x.1 x.2).2)
  exact h2

theorem optionals_piece {P : List Int → Prop} {f : Nat → List Nd → Nat × List Nd} (hf : Builds P f) {next : Nat} {N : List Nd} :
    ∀ (j : Nat) (i : Nat) (x : Nat × List Nd), Piece (fun u => ∃ q : Nat, q ≤ i ∧ Rep P q u) next N x.1 x.2 →
      Piece (fun u => ∃ q : Nat, q ≤ i + j ∧ Rep P q u) next N (iter (optional f next) j x).1 (iter (optional f next) j x).2
  | 0, i, x, h => h
  | j + 1, i, x, h => by
    have h1 := optional_piece hf h
    have h2 : Piece (fun u => ∃ q : Nat, q ≤ i + 1 ∧ Rep P q u) next N (optional f next x.1 x.2).1 (optional f next x.1 x.2).2 := by
      refine h1.congr (fun u => ?_)
      constructor
      · rintro (⟨u1, u2, rfl, hp, q, hq, hr⟩ | rfl)
        · exact ⟨q + 1, by omega, u1, u2, rfl, hp, hr⟩
        · exact ⟨0, by omega, rfl⟩
      · rintro ⟨q, hq, hr⟩
        cases q with
        | zero => exact .inr hr
        | succ q =>
          obtain ⟨u1, u2, rfl, hp, hr⟩ := hr
          exact .inl ⟨u1, u2, rfl, hp, q, by omega, hr⟩
    have h3 := optionals_piece hf j (i + 1) (optional f next x.1 x.2) h2
    have e : i + 1 + j = i + (j + 1) := by omega
    rw [e] at h3
    exact h3

theorem set_get_ne (N : List Nd) (k i : Nat) (d : Nd) (h : i ≠ k) : (N.set k d)[i]? = N[i]? := by
  rw [List.getElem?_set_ne (by omega)]

/-- Any number of times. -/
theorem star_piece {P : List Int → Prop} {f : Nat → List Nd → Nat × List Nd} (hf : Builds P f) (next : Nat) (N : List Nd) :
    Piece (fun u => ∃ q : Nat, Rep P q u) next N (star f next N).1 (star f next N).2 := by
  have hp := hf N.length (N ++ [.ways 0 next])
  have hl : N.length + 1 ≤ (f N.length (N ++ [.ways 0 next])).2.length := by have := hp.len; simpa using this
  unfold star
  generalize f N.length (N ++ [.ways 0 next]) = r at *
  obtain ⟨x, N1⟩ := r
  dsimp only at *
  refine ⟨by simp; omega, ?_, fun _ => by simp; omega, ?_, ?_, ?_⟩
  · intro i hi
    rw [set_get_ne _ _ _ _ (by omega), hp.old i (by simp; omega), get_snoc_lt _ _ _ hi]
  · intro a b hn
    have hpos : 0 < N.length := by omega
    have key := hp.far (fun i q c h => by
        rcases snoc_cases h with h | ⟨_, h⟩
        · have := a i q c h; simp; omega
        · cases h)
      (fun i c d h => by
        rcases snoc_cases h with h | ⟨_, h⟩
        · have := b i c d h; simp; omega
        · cases h; simp; omega) (by simp)
    have ix := hp.inside (by simp)
    obtain ⟨a1, b1⟩ := key
    constructor
    · intro i q c h
      by_cases hi : i = N.length
      · subst hi
        rw [List.getElem?_set_self (by omega)] at h; cases h
      · rw [set_get_ne _ _ _ _ hi] at h
        have := a1 i q c h; simpa using this
    · intro i c d h
      by_cases hi : i = N.length
      · subst hi
        rw [List.getElem?_set_self (by omega)] at h; cases h
        simp only [List.length_set]; omega
      · rw [set_get_ne _ _ _ _ hi] at h
        have := b1 i c d h; simpa using this
  · intro hN G hG
    have h0 : N.length ≠ 0 := by intro e; exact hN (List.length_eq_zero_iff.1 e)
    have hx : G[N.length]? = some (.ways x next) := by
      rw [hG _ (Nat.le_refl _) (by simp; omega), List.getElem?_set_self (by omega)]
    have hG1 : Agree G N1 (N ++ [Nd.ways 0 next]).length := fun i hi hl => by
      simp at hi
      rw [hG i (by omega) (by simpa using hl), set_get_ne _ _ _ _ (by omega)]
    intro m
    induction m using Nat.strongRecOn with
    | ind m ih =>
      intro u ha
      obtain ⟨m', rfl, h | h⟩ := ha.inv_ways h0 hx
      · obtain ⟨u1, u2, m1, rfl, p, a, l⟩ := hp.reads (by simp) G hG1 m' u h
        obtain ⟨v1, v2, m2, rfl, ⟨q, hq⟩, a2, l2⟩ := ih m1 (by omega) u2 a
        exact ⟨u1 ++ v1, v2, m2, by simp, ⟨q + 1, u1, v1, rfl, p, hq⟩, a2, by omega⟩
      · exact ⟨[], u, m', rfl, ⟨0, rfl⟩, h, by omega⟩
  · intro hN G hG u1 u2 hq ha
    have h0 : N.length ≠ 0 := by intro e; exact hN (List.length_eq_zero_iff.1 e)
    have hx : G[N.length]? = some (.ways x next) := by
      rw [hG _ (Nat.le_refl _) (by simp; omega), List.getElem?_set_self (by omega)]
    have hG1 : Agree G N1 (N ++ [Nd.ways 0 next]).length := fun i hi hl => by
      simp at hi
      rw [hG i (by omega) (by simpa using hl), set_get_ne _ _ _ _ (by omega)]
    obtain ⟨q, hq⟩ := hq
    induction q generalizing u1 with
    | zero => cases hq; exact Acc.wayB h0 hx ha
    | succ q ih =>
      obtain ⟨v1, v2, rfl, p, hr⟩ := hq
      rw [List.append_assoc]
      exact Acc.wayA h0 hx (hp.takes (by simp) G hG1 v1 _ p (ih v2 hr))

theorem Rep.add {P : List Int → Prop} : ∀ (i j : Nat) (u1 u2 : List Int), Rep P i u1 → Rep P j u2 → Rep P (i + j) (u1 ++ u2)
  | 0, j, u1, u2, h1, h2 => by cases h1; simpa using h2
  | i + 1, j, u1, u2, h1, h2 => by
    obtain ⟨a, b, rfl, hp, hr⟩ := h1
    have e : i + 1 + j = (i + j) + 1 := by omega
    rw [e]
    exact ⟨a, b ++ u2, by simp, hp, Rep.add i j b u2 hr h2⟩
theorem Rep.split {P : List Int → Prop} : ∀ (i j : Nat) (u : List Int), Rep P (i + j) u → ∃ u1 u2, u = u1 ++ u2 ∧ Rep P i u1 ∧ Rep P j u2
  | 0, j, u, h => ⟨[], u, rfl, rfl, by simpa using h⟩
  | i + 1, j, u, h => by
    have e : i + 1 + j = (i + j) + 1 := by omega
    rw [e] at h
    obtain ⟨a, b, rfl, hp, hr⟩ := h
    obtain ⟨c, d, rfl, h1, h2⟩ := Rep.split i j b hr
    exact ⟨a ++ c, d, by simp, ⟨a, c, rfl, hp, h1⟩, h2⟩

mutual
theorem Re.add_piece : ∀ r : Re, Re.WF r → Builds (Re.L r) (Re.add r)
  | .one p pl, _ => fun next N => by
    simp only [Re.add]
    exact (Piece.one p next N).congr (fun u => by simp [Re.L])
  | .row l, hw => fun next N => by
    simp only [Re.add]
    by_cases h : Re.cnt (.row l) = 0
    · rw [if_pos h]; exact Piece.nothing (Re.L_eps (.row l) hw h) next N
    · rw [if_neg h]; exact (Re.addL_piece l hw next N).congr (fun u => by simp [Re.L])
  | .fork a b, hw => fun next N => by
    simp only [Re.add]
    by_cases h : Re.cnt (.fork a b) = 0
    · rw [if_pos h]; exact Piece.nothing (Re.L_eps (.fork a b) hw h) next N
    · rw [if_neg h]
      have h1 := Re.add_piece a hw.1 next N
      have h2 := Re.add_piece b hw.2 next (Re.add a next N).2
      exact (h1.fork h2).congr (fun u => by simp [Re.L])
  | .loop k m n b, hw => fun next N => by
    simp only [Re.add]
    by_cases h : Re.cnt k = 0
    · rw [if_pos h]; exact Piece.nothing (Re.L_loop_eps hw h) next N
    · rw [if_neg h]
      obtain ⟨hk, hm, hn, _, _, _⟩ := hw
      have hf := Re.add_piece k hk
      by_cases hn0 : n < 0
      · have e : (n - m).toNat = 0 := by omega
        rw [if_pos hn0, e]
        have h1 := star_piece hf next N
        have h2 := iter_piece hf m.toNat _ (star (Re.add k) next N) h1
        refine h2.congr (fun u => ?_)
        simp only [Re.L]
        constructor
        · rintro ⟨u1, u2, rfl, h1, q, h2⟩
          exact ⟨m.toNat + q, by omega, .inl hn0, Rep.add _ _ _ _ h1 h2⟩
        · rintro ⟨j, hj, _, hr⟩
          obtain ⟨q, rfl⟩ : ∃ q, j = m.toNat + q := ⟨j - m.toNat, by omega⟩
          obtain ⟨u1, u2, rfl, h1, h2⟩ := Rep.split _ _ _ hr
          exact ⟨u1, u2, rfl, h1, q, h2⟩
      · rw [if_neg hn0]
        have h0 : Piece (fun u => ∃ q : Nat, q ≤ 0 ∧ Rep (Re.L k) q u) next N (next, N).1 (next, N).2 := by
          refine Piece.nothing (fun u => ?_) next N
          constructor
          · rintro ⟨q, hq, hr⟩
            obtain rfl : q = 0 := by omega
            exact hr
          · rintro rfl; exact ⟨0, by omega, rfl⟩
        have h1 := optionals_piece hf (n - m).toNat 0 (next, N) h0
        have h2 := iter_piece hf m.toNat _ _ h1
        refine h2.congr (fun u => ?_)
        simp only [Re.L]
        constructor
        · rintro ⟨u1, u2, rfl, h1, q, hq, h2⟩
          exact ⟨m.toNat + q, by omega, .inr (by omega), Rep.add _ _ _ _ h1 h2⟩
        · rintro ⟨j, hj, hj2, hr⟩
          obtain ⟨q, rfl⟩ : ∃ q, j = m.toNat + q := ⟨j - m.toNat, by omega⟩
          obtain ⟨u1, u2, rfl, h1, h2⟩ := Rep.split _ _ _ hr
          exact ⟨u1, u2, rfl, h1, q, by omega, h2⟩
theorem Re.addL_piece : ∀ l : List Re, Re.WFL l → Builds (Re.LL l) (Re.addL l)
  | [], _ => fun next N => by
    simp only [Re.addL]
    exact Piece.nothing (fun u => by simp [Re.LL]) next N
  | r :: l, hw => fun next N => by
    simp only [Re.addL]
    have h1 := Re.addL_piece l hw.2 next N
    have h2 := Re.add_piece r hw.1 (Re.addL l next N).1 (Re.addL l next N).2
    exact (h1.seq h2).congr (fun u => by simp [Re.LL])
end

/-- The whole graph of an expression: behind the end. -/
def Re.graph (r : Re) : Nat × List Nd := Re.add r 0 [.ways 0 0]

theorem Re.graph_acc (r : Re) (hw : Re.WF r) (u : List Int) : Acc r.graph.2 r.graph.1 u ↔ Re.L r u := by
  have hp := Re.add_piece r hw 0 [.ways 0 0]
  have hG : Agree r.graph.2 r.graph.2 1 := fun _ _ _ => rfl
  constructor
  · rintro ⟨m, h⟩
    obtain ⟨u1, u2, m', rfl, h1, h2, _⟩ := hp.reads (by simp) _ hG m u h
    cases h2 with
    | fin => simpa using h1
    | rune h0 _ _ _ => exact absurd rfl h0
    | wayA h0 _ _ => exact absurd rfl h0
    | wayB h0 _ _ => exact absurd rfl h0
  · intro h
    have := hp.takes (by simp) _ hG u [] h ⟨0, .fin⟩
    rw [List.append_nil] at this
    exact this

/-- The graph holds together: all ways lead to nodes that are there. -/
structure Whole (G : List Nd) : Prop where
  rune : ∀ (i : Nat) (p : Int → Bool) (a : Nat), G[i]? = some (Nd.rune p a) → a < G.length
  ways : ∀ i a b : Nat, G[i]? = some (Nd.ways a b) → a < G.length ∧ b < G.length

theorem Re.graph_whole (r : Re) (hw : Re.WF r) : Whole r.graph.2 ∧ r.graph.1 < r.graph.2.length := by
  have hp := Re.add_piece r hw 0 [.ways 0 0]
  have hf := hp.far (fun i p a h => by cases i <;> simp at h) (fun i a b h => by
    cases i with
    | zero => simp at h; simp [← h.1, ← h.2]
    | succ i => simp at h) (by simp)
  exact ⟨⟨hf.1, hf.2⟩, hp.inside (by simp)⟩

/-- What is reached without a rune. -/
inductive Reach (G : List Nd) : Nat → Nat → Prop where
  | refl (x : Nat) : Reach G x x
  | wayA {x a b y : Nat} : x ≠ 0 → G[x]? = some (.ways a b) → Reach G a y → Reach G x y
  | wayB {x a b y : Nat} : x ≠ 0 → G[x]? = some (.ways a b) → Reach G b y → Reach G x y

theorem Reach.trans {G : List Nd} {x y z : Nat} (h : Reach G x y) (k : Reach G y z) : Reach G x z := by
  induction h with
  | refl => exact k
  | wayA h0 hx _ ih => exact .wayA h0 hx (ih k)
  | wayB h0 hx _ ih => exact .wayB h0 hx (ih k)

theorem acc_nil {G : List Nd} {x : Nat} : Acc G x [] ↔ Reach G x 0 := by
  constructor
  · rintro ⟨m, h⟩
    generalize hu : ([] : List Int) = u at h
    induction h with
    | fin => exact .refl 0
    | rune => cases hu
    | wayA h0 hx _ ih => exact .wayA h0 hx (ih hu)
    | wayB h0 hx _ ih => exact .wayB h0 hx (ih hu)
  · intro h
    generalize hz : (0 : Nat) = z at h
    induction h with
    | refl x => subst hz; exact ⟨0, .fin⟩
    | wayA h0 hx _ ih => exact Acc.wayA h0 hx (ih hz)
    | wayB h0 hx _ ih => exact Acc.wayB h0 hx (ih hz)

theorem acc_cons {G : List Nd} {x : Nat} {c : Int} {u : List Int} :
    Acc G x (c :: u) ↔ ∃ y p a, Reach G x y ∧ y ≠ 0 ∧ G[y]? = some (.rune p a) ∧ p c = true ∧ Acc G a u := by
  constructor
  · rintro ⟨m, h⟩
    generalize hv : c :: u = v at h
    induction h with
    | fin => cases hv
    | rune h0 hx hp h' _ => cases hv; exact ⟨_, _, _, .refl _, h0, hx, hp, _, h'⟩
    | wayA h0 hx _ ih =>
      obtain ⟨y, p, a, hr, rest⟩ := ih hv
      exact ⟨y, p, a, .wayA h0 hx hr, rest⟩
    | wayB h0 hx _ ih =>
      obtain ⟨y, p, a, hr, rest⟩ := ih hv
      exact ⟨y, p, a, .wayB h0 hx hr, rest⟩
  · rintro ⟨y, p, a, hr, h0, hy, hp, ha⟩
    induction hr with
    | refl => exact Acc.rune h0 hy hp ha
    | wayA g0 gx _ ih => exact Acc.wayA g0 gx (ih h0 hy)
    | wayB g0 gx _ ih => exact Acc.wayB g0 gx (ih h0 hy)

end Go.Proofs.YtgcmjidphoklkaaGreatDoor.Rx

/- How an expression is read, in plain Lean: the reader of layer 5, function by function; what it reads lies in the text and holds together. -/
namespace Go.Proofs.YtgcmjidphoklkaaGreatDoor.Rx

/-- An error's number and its place. -/
abbrev PErr := Int × Int
abbrev PRes (α : Type) := Except PErr α

def bt (s : ByteArray) (i : Nat) : Nat := (s.get! i).toNat
def here (s : ByteArray) (i c : Nat) : Bool := decide (i < s.size) && bt s i == c
def peekC (s : ByteArray) (i : Nat) : Int := if i < s.size then ((Utf8.decode s i).1 : Int) else -1
def peekN (s : ByteArray) (i : Nat) : Nat := if i < s.size then (Utf8.decode s i).2 else 0

def digitP (c : Int) : Bool := decide (48 ≤ c) && decide (c ≤ 57)
def letterP (c : Int) : Bool := digitP c || (decide (97 ≤ c) && decide (c ≤ 122)) || (decide (65 ≤ c) && decide (c ≤ 90)) || c == 95
def spaceP (c : Int) : Bool := c == 9 || c == 10 || c == 12 || c == 13 || c == 32
def signP (c : Int) : Bool := c == 92 || c == 46 || c == 91 || c == 93 || c == 40 || c == 41 || c == 123 || c == 125 || c == 42 || c == 43 || c == 63 || c == 124 || c == 94 || c == 36

/-- A rune's set, and the rune itself if it stands for itself. -/
structure One where
  p : Int → Bool
  plain : Option Int

def onlyP (c : Int) : One := { p := fun x => x == c, plain := some c }
def setP (p : Int → Bool) : One := { p := p, plain := none }
def One.re (o : One) : Re := .one o.p o.plain

/-- Behind a backslash, which stands at i. -/
def escapeP (s : ByteArray) (i : Nat) : PRes (One × Nat) :=
  let c := peekC s (i + 1)
  let e := i + 1 + peekN s (i + 1)
  if c = -1 then .error (50, s.size)
  else if c = 110 then .ok (onlyP 10, e)
  else if c = 114 then .ok (onlyP 13, e)
  else if c = 116 then .ok (onlyP 9, e)
  else if c = 100 then .ok (setP digitP, e)
  else if c = 119 then .ok (setP letterP, e)
  else if c = 115 then .ok (setP spaceP, e)
  else if c = 68 then .ok (setP (fun x => !digitP x), e)
  else if c = 87 then .ok (setP (fun x => !letterP x), e)
  else if c = 83 then .ok (setP (fun x => !spaceP x), e)
  else if signP c = false ∧ c ≠ 45 ∧ c ≠ 47 then .error (50, i)
  else .ok (onlyP c, e)

def memberP (s : ByteArray) (i : Nat) : PRes (One × Nat) :=
  if here s i 92 = true then escapeP s i else .ok (onlyP (peekC s i), i + peekN s i)

def clsP (neg : Bool) (l : List (Int → Bool)) (x : Int) : Bool := if neg then !(l.any fun f => f x) else l.any fun f => f x

/-- What follows at the head of a class's round: an end, a fault, or (none) a member. -/
def classHead (s : ByteArray) (neg : Bool) (l : List (Int → Bool)) (i : Nat) : Option (PRes (One × Nat)) :=
  if peekC s i < 0 then some (.error (50, s.size))
  else if peekC s i = 93 ∧ l ≠ [] then some (.ok (setP (clsP neg l), i + 1))
  else if peekC s i = 45 ∧ l ≠ [] ∧ here s (i + peekN s i) 93 = false ∧ s.size ≤ i + 1 then some (.error (50, s.size))
  else if peekC s i = 93 ∨ (peekC s i = 45 ∧ l ≠ [] ∧ here s (i + peekN s i) 93 = false) ∨ (peekC s i = 94 ∧ l = [] ∧ neg = false) then some (.error (50, i))
  else none

/-- One member of a class, or a range. -/
def classItem (s : ByteArray) (i : Nat) : PRes ((Int → Bool) × Nat) :=
  match memberP s i with
  | .error e => .error e
  | .ok (a, j) =>
    if a.plain.isSome = true ∧ here s j 45 = true ∧ j + 1 < s.size ∧ bt s (j + 1) ≠ 93 then
      match memberP s (j + 1) with
      | .error e => .error e
      | .ok (b, k) =>
        if b.plain = none ∨ b.plain.getD 0 < a.plain.getD 0 then .error (50, i)
        else .ok (fun x => decide (a.plain.getD 0 ≤ x) && decide (x ≤ b.plain.getD 0), k)
    else .ok (a.p, j)

def classP (s : ByteArray) (neg : Bool) : Nat → List (Int → Bool) → Nat → PRes (One × Nat)
  | 0, _, _ => .error (999, 0)
  | f + 1, l, i =>
    match classHead s neg l i with
    | some r => r
    | none =>
      match classItem s i with
      | .error e => .error e
      | .ok (p, j) => classP s neg f (l ++ [p]) j

/-- A class, whose bracket stands at i. -/
def wholeClass (s : ByteArray) (i : Nat) : PRes (One × Nat) :=
  classP s (here s (i + 1) 94) (s.size + 1) [] (if here s (i + 1) 94 = true then i + 2 else i + 1)

def dig (s : ByteArray) (i : Nat) : Bool := decide (i < s.size) && digitP (bt s i)
/-- At most f digits more, behind the number n. -/
def numF (s : ByteArray) : Nat → Int → Nat → Int × Nat
  | 0, n, i => (n, i)
  | f + 1, n, i => if dig s i = true then numF s f (max n 0 * 10 + ((bt s i : Int) - 48)) (i + 1) else (n, i)
def numberP (s : ByteArray) (i : Nat) : Int × Nat := numF s 2 (-1) i

def badP (s : ByteArray) (i j : Nat) : PErr := (50, if s.size ≤ j then (s.size : Int) else (i : Int))

def bracesP (s : ByteArray) (i : Nat) : PRes (Int × Int × Nat) :=
  let m := numberP s (i + 1)
  if m.1 < 0 then .error (badP s i m.2)
  else if here s m.2 44 = true then
    if here s (m.2 + 1) 125 = true then .ok (m.1, -1, m.2 + 2)
    else
      let n := numberP s (m.2 + 1)
      if n.1 < m.1 then .error (badP s i n.2)
      else if here s n.2 125 = true then .ok (m.1, n.1, n.2 + 1)
      else .error (badP s i n.2)
  else if here s m.2 125 = true then .ok (m.1, m.1, m.2 + 1)
  else .error (badP s i m.2)

def timesP (s : ByteArray) (p : Re) (i : Nat) : PRes (Re × Nat) :=
  if here s i 42 = true then .ok (.loop p 0 (-1) false, i + 1)
  else if here s i 43 = true then .ok (.loop p 1 (-1) false, i + 1)
  else if here s i 63 = true then .ok (.loop p 0 1 false, i + 1)
  else if here s i 123 = true then
    match bracesP s i with
    | .error e => .error e
    | .ok (m, n, j) => .ok (.loop p m n true, j)
  else .ok (p, i)

/-- What stands between parentheses, from j on. -/
def innerP (s : ByteArray) (choice : Nat → PRes (Re × Nat)) (j : Nat) : PRes (Re × Nat) :=
  match choice j with
  | .error e => .error e
  | .ok (p, k) => if here s k 41 = true then .ok (p, k + 1) else .error (50, k)

def groupP (s : ByteArray) (choice : Nat → PRes (Re × Nat)) (deep i : Nat) : PRes (Re × Nat) :=
  if 50 ≤ deep then .error (51, i)
  else if here s (i + 1) 63 = true then
    (if here s (i + 2) 58 = true then innerP s choice (i + 3) else .error (50, ((i + 2 : Nat) : Int)))
  else innerP s choice (i + 1)

def liftO : PRes (One × Nat) → PRes (Re × Nat)
  | .error e => .error e
  | .ok (o, j) => .ok (o.re, j)

def atomP (s : ByteArray) (choice : Nat → PRes (Re × Nat)) (deep i : Nat) : PRes (Re × Nat) :=
  let c := peekC s i
  if c = 46 then .ok ((setP fun x => x != 10).re, i + 1)
  else if c = 92 then liftO (escapeP s i)
  else if c = 91 then liftO (wholeClass s i)
  else if c = 40 then groupP s choice deep i
  else if signP c = true then .error (50, i)
  else .ok ((onlyP c).re, i + peekN s i)

def goesOn (s : ByteArray) (i : Nat) : Bool := decide (i < s.size) && !here s i 124 && !here s i 41

/-- An atom and how often. -/
def itemP (s : ByteArray) (choice : Nat → PRes (Re × Nat)) (deep i : Nat) : PRes (Re × Nat) :=
  match atomP s choice deep i with
  | .error e => .error e
  | .ok (a, j) => timesP s a j

def rowP (s : ByteArray) (choice : Nat → PRes (Re × Nat)) (deep : Nat) : Nat → List Re → Nat → PRes (Re × Nat)
  | 0, _, _ => .error (999, 0)
  | f + 1, l, i =>
    if goesOn s i = true then
      match itemP s choice deep i with
      | .error e => .error e
      | .ok (a, j) => rowP s choice deep f (l ++ [a]) j
    else .ok (.row l, i)

def forksP (s : ByteArray) (choice : Nat → PRes (Re × Nat)) (deep : Nat) : Nat → Re → Nat → PRes (Re × Nat)
  | 0, _, _ => .error (999, 0)
  | f + 1, p, i =>
    if here s i 124 = true then
      match rowP s choice deep (s.size + 1) [] (i + 1) with
      | .error e => .error e
      | .ok (q, j) => forksP s choice deep f (.fork p q) j
    else .ok (p, i)

def choiceP (s : ByteArray) : Nat → Nat → Nat → PRes (Re × Nat)
  | 0, _, _ => .error (999, 0)
  | f + 1, deep, i =>
    match rowP s (choiceP s f (deep + 1)) deep (s.size + 1) [] i with
    | .error e => .error e
    | .ok (p, j) => forksP s (choiceP s f (deep + 1)) deep (s.size + 1) p j

def wholeP (s : ByteArray) : PRes Re :=
  match choiceP s 51 0 0 with
  | .error e => .error e
  | .ok (p, j) => if j < s.size then .error (50, j) else .ok p

def compileP (s : ByteArray) : PRes Re :=
  if 256 < s.size then .error (4, 0) else
  match wholeP s with
  | .error e => .error e
  | .ok p => if 2000 < Re.cnt p then .error (7, 0) else .ok p

theorem here_lt {s : ByteArray} {i c : Nat} (h : here s i c = true) : i < s.size := by
  simp only [here, Bool.and_eq_true, decide_eq_true_eq] at h; exact h.1
theorem here_bt {s : ByteArray} {i c : Nat} (h : here s i c = true) : bt s i = c := by
  simp only [here, Bool.and_eq_true, decide_eq_true_eq, beq_iff_eq] at h; exact h.2
theorem here_mk {s : ByteArray} {i c : Nat} (h : i < s.size) (e : bt s i = c) : here s i c = true := by
  simp [here, h, e]
theorem here_no {s : ByteArray} {i c : Nat} (h : s.size ≤ i) : here s i c = false := by
  simp [here]; omega

theorem peekC_lt {s : ByteArray} {i : Nat} (h : peekC s i ≠ -1) : i < s.size := by
  unfold peekC at h; split at h
  · assumption
  · exact absurd rfl h
theorem peekC_none {s : ByteArray} {i : Nat} (h : s.size ≤ i) : peekC s i = -1 := by unfold peekC; rw [if_neg (by omega)]
theorem peekN_none {s : ByteArray} {i : Nat} (h : s.size ≤ i) : peekN s i = 0 := by unfold peekN; rw [if_neg (by omega)]

end Go.Proofs.YtgcmjidphoklkaaGreatDoor.Rx
