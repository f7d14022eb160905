/- Fronts: the nodes that are met at a place of a text, in plain Lean; what stands in them says whether the text is accepted. -/
import Derived.Test.YtgcmjidphoklkaaGreatDoorRxP1
namespace Go.Proofs.YtgcmjidphoklkaaGreatDoor.Rx

/-- All nodes that are reached from X without a rune are met; those that want a rune are listed. -/
structure Front (G : List Nd) (X : Nat → Prop) (met : List Bool) (runes : List Nat) : Prop where
  len : met.length = G.length
  reach : ∀ y, met[y]? = some true ↔ ∃ x, X x ∧ Reach G x y
  lists : ∀ y, y ∈ runes ↔ y ≠ 0 ∧ met[y]? = some true ∧ ∃ p a, G[y]? = some (.rune p a)
  cnt : runes.length ≤ met.count true

/-- Half done: what is on the stack is still to be met. -/
structure Fills (G : List Nd) (X : Nat → Prop) (st : List Nat) (met : List Bool) (runes : List Nat) : Prop where
  len : met.length = G.length
  sound : ∀ y, met[y]? = some true → ∃ x, X x ∧ Reach G x y
  stack : ∀ y, y ∈ st → y < G.length ∧ ∃ x, X x ∧ Reach G x y
  start : ∀ x, X x → met[x]? = some true ∨ x ∈ st
  closed : ∀ y a b, y ≠ 0 → met[y]? = some true → G[y]? = some (.ways a b) → (met[a]? = some true ∨ a ∈ st) ∧ (met[b]? = some true ∨ b ∈ st)
  lists : ∀ y, y ∈ runes ↔ y ≠ 0 ∧ met[y]? = some true ∧ ∃ p a, G[y]? = some (.rune p a)
  cnt : runes.length ≤ met.count true

theorem Front.empty (G : List Nd) : Front G (fun _ => False) (List.replicate G.length false) [] where
  len := by simp
  reach := fun y => by
    constructor
    · intro h
      have := List.mem_of_getElem? h
      simp at this
    · rintro ⟨x, h, _⟩; exact h.elim
  lists := fun y => by
    constructor
    · intro h; simp at h
    · rintro ⟨_, h, _⟩
      have := List.mem_of_getElem? h
      simp at this
  cnt := by simp

theorem Front.fills {G : List Nd} {X : Nat → Prop} {met : List Bool} {runes : List Nat} (h : Front G X met runes) {n : Nat} (hn : n < G.length) : Fills G (fun x => X x ∨ x = n) [n] met runes where
  len := h.len
  sound := fun y hy => by
    obtain ⟨x, hx, hr⟩ := (h.reach y).1 hy
    exact ⟨x, .inl hx, hr⟩
  stack := fun y hy => by
    rw [List.mem_singleton.1 hy]
    exact ⟨hn, n, .inr rfl, .refl n⟩
  start := fun x hx => by
    rcases hx with hx | rfl
    · exact .inl ((h.reach x).2 ⟨x, hx, .refl x⟩)
    · exact .inr (by simp)
  closed := fun y a b h0 hy hg => by
    obtain ⟨x, hx, hr⟩ := (h.reach y).1 hy
    exact ⟨.inl ((h.reach a).2 ⟨x, hx, hr.trans (.wayA h0 hg (.refl a))⟩), .inl ((h.reach b).2 ⟨x, hx, hr.trans (.wayB h0 hg (.refl b))⟩)⟩
  lists := h.lists
  cnt := h.cnt

theorem Fills.front {G : List Nd} {X : Nat → Prop} {met : List Bool} {runes : List Nat} (h : Fills G X [] met runes) : Front G X met runes where
  len := h.len
  reach := fun y => by
    refine ⟨h.sound y, ?_⟩
    rintro ⟨x, hx, hr⟩
    have hm : met[x]? = some true := (h.start x hx).elim id (fun h => by simp at h)
    clear hx
    induction hr with
    | refl => exact hm
    | wayA h0 hg _ ih => exact ih ((h.closed _ _ _ h0 hm hg).1.elim id (fun h => by simp at h))
    | wayB h0 hg _ ih => exact ih ((h.closed _ _ _ h0 hm hg).2.elim id (fun h => by simp at h))
  lists := h.lists
  cnt := h.cnt

theorem mem_snoc {l : List Nat} {x y : Nat} : x ∈ l ++ [y] ↔ x ∈ l ∨ x = y := by simp

/-- What is met already is passed by. -/
theorem Fills.skip {G : List Nd} {X : Nat → Prop} {st : List Nat} {y : Nat} {met : List Bool} {runes : List Nat} (h : Fills G X (st ++ [y]) met runes) (hy : met[y]? = some true) : Fills G X st met runes where
  len := h.len
  sound := h.sound
  stack := fun z hz => h.stack z (mem_snoc.2 (.inl hz))
  start := fun x hx => (h.start x hx).elim .inl fun hs => (mem_snoc.1 hs).elim .inr fun e => .inl (e ▸ hy)
  closed := fun z a b h0 hz hg => by
    have := h.closed z a b h0 hz hg
    exact ⟨this.1.elim .inl fun hs => (mem_snoc.1 hs).elim .inr fun e => .inl (e ▸ hy), this.2.elim .inl fun hs => (mem_snoc.1 hs).elim .inr fun e => .inl (e ▸ hy)⟩
  lists := h.lists
  cnt := h.cnt

theorem set_true_iff {met : List Bool} {y z : Nat} (hy : y < met.length) : (met.set y true)[z]? = some true ↔ met[z]? = some true ∨ z = y := by
  by_cases e : z = y
  · subst e; simp [hy]
  · rw [List.getElem?_set_ne (by omega)]
    simp [e]

theorem count_set {met : List Bool} : ∀ {y : Nat}, met[y]? = some false → (met.set y true).count true = met.count true + 1 := by
  induction met with
  | nil => intro y h; simp at h
  | cons b l ih =>
    intro y h
    cases y with
    | zero => simp at h; subst h; simp
    | succ y =>
      simp at h
      have := ih h
      cases b <;> simp [this]

theorem count_set_false {met : List Bool} : ∀ {y : Nat}, met[y]? = some false → (met.set y true).count false + 1 = met.count false := by
  induction met with
  | nil => intro y h; simp at h
  | cons b l ih =>
    intro y h
    cases y with
    | zero => simp at h; subst h; simp
    | succ y =>
      simp at h
      have := ih h
      cases b <;> simp [this]

/-- The end is met: it leads nowhere. -/
theorem Fills.zero {G : List Nd} {X : Nat → Prop} {st : List Nat} {met : List Bool} {runes : List Nat} (h : Fills G X (st ++ [0]) met runes) (hy : met[0]? = some false) : Fills G X st (met.set 0 true) runes := by
  have hlt : 0 < met.length := (List.getElem?_eq_some_iff.1 hy).1
  have hin := h.stack 0 (by simp)
  refine ⟨by simp [h.len], fun z hz => ?_, fun z hz => h.stack z (mem_snoc.2 (.inl hz)), fun x hx => ?_, fun z a b h0 hz hg => ?_, fun z => ?_, ?_⟩
  · rcases (set_true_iff hlt).1 hz with hz | rfl
    · exact h.sound z hz
    · exact hin.2
  · rcases h.start x hx with hm | hs
    · exact .inl ((set_true_iff hlt).2 (.inl hm))
    · rcases mem_snoc.1 hs with hs | rfl
      · exact .inr hs
      · exact .inl ((set_true_iff hlt).2 (.inr rfl))
  · have hz' : met[z]? = some true := ((set_true_iff hlt).1 hz).elim id (fun e => absurd e h0)
    have := h.closed z a b h0 hz' hg
    constructor
    · rcases this.1 with hm | hs
      · exact .inl ((set_true_iff hlt).2 (.inl hm))
      · rcases mem_snoc.1 hs with hs | rfl
        · exact .inr hs
        · exact .inl ((set_true_iff hlt).2 (.inr rfl))
    · rcases this.2 with hm | hs
      · exact .inl ((set_true_iff hlt).2 (.inl hm))
      · rcases mem_snoc.1 hs with hs | rfl
        · exact .inr hs
        · exact .inl ((set_true_iff hlt).2 (.inr rfl))
  · rw [h.lists]
    constructor
    · rintro ⟨h0, hm, hp⟩; exact ⟨h0, (set_true_iff hlt).2 (.inl hm), hp⟩
    · rintro ⟨h0, hm, hp⟩; exact ⟨h0, ((set_true_iff hlt).1 hm).elim id (fun e => absurd e h0), hp⟩
  · have := count_set hy
    have := h.cnt
    omega

/-- A node that wants a rune is met and listed. -/
theorem Fills.rune {G : List Nd} {X : Nat → Prop} {st : List Nat} {y a : Nat} {p : Int → Bool} {met : List Bool} {runes : List Nat} (h : Fills G X (st ++ [y]) met runes) (hy : met[y]? = some false) (h0 : y ≠ 0) (hg : G[y]? = some (.rune p a)) : Fills G X st (met.set y true) (runes ++ [y]) := by
  have hlt : y < met.length := (List.getElem?_eq_some_iff.1 hy).1
  have hin := h.stack y (by simp)
  refine ⟨by simp [h.len], fun z hz => ?_, fun z hz => h.stack z (mem_snoc.2 (.inl hz)), fun x hx => ?_, fun z c d z0 hz hzg => ?_, fun z => ?_, ?_⟩
  · rcases (set_true_iff hlt).1 hz with hz | rfl
    · exact h.sound z hz
    · exact hin.2
  · rcases h.start x hx with hm | hs
    · exact .inl ((set_true_iff hlt).2 (.inl hm))
    · rcases mem_snoc.1 hs with hs | rfl
      · exact .inr hs
      · exact .inl ((set_true_iff hlt).2 (.inr rfl))
  · have hz' : met[z]? = some true := ((set_true_iff hlt).1 hz).elim id (fun e => by subst e; rw [hg] at hzg; cases hzg)
    have := h.closed z c d z0 hz' hzg
    constructor
    · rcases this.1 with hm | hs
      · exact .inl ((set_true_iff hlt).2 (.inl hm))
      · rcases mem_snoc.1 hs with hs | rfl
        · exact .inr hs
        · exact .inl ((set_true_iff hlt).2 (.inr rfl))
    · rcases this.2 with hm | hs
      · exact .inl ((set_true_iff hlt).2 (.inl hm))
      · rcases mem_snoc.1 hs with hs | rfl
        · exact .inr hs
        · exact .inl ((set_true_iff hlt).2 (.inr rfl))
  · rw [mem_snoc, h.lists]
    constructor
    · rintro (⟨z0, hm, hp⟩ | rfl)
      · exact ⟨z0, (set_true_iff hlt).2 (.inl hm), hp⟩
      · exact ⟨h0, (set_true_iff hlt).2 (.inr rfl), p, a, hg⟩
    · rintro ⟨z0, hm, hp⟩
      rcases (set_true_iff hlt).1 hm with hm | rfl
      · exact .inl ⟨z0, hm, hp⟩
      · exact .inr rfl
  · have := count_set hy
    have := h.cnt
    simp only [List.length_append, List.length_singleton]
    omega

/-- A node with two ways is met; where they lead is still to be met. -/
theorem Fills.ways {G : List Nd} {X : Nat → Prop} {st : List Nat} {y a b : Nat} {met : List Bool} {runes : List Nat} (hw : Whole G) (h : Fills G X (st ++ [y]) met runes) (hy : met[y]? = some false) (h0 : y ≠ 0) (hg : G[y]? = some (.ways a b)) : Fills G X (st ++ [a, b]) (met.set y true) runes := by
  have hlt : y < met.length := (List.getElem?_eq_some_iff.1 hy).1
  have hin := h.stack y (by simp)
  have hm1 : ∀ {z : Nat}, (met[z]? = some true ∨ z ∈ st ++ [y]) → ((met.set y true)[z]? = some true ∨ z ∈ st ++ [a, b]) := fun {z} hz => by
    rcases hz with hz | hz
    · exact .inl ((set_true_iff hlt).2 (.inl hz))
    · rcases mem_snoc.1 hz with hz | rfl
      · exact .inr (List.mem_append_left _ hz)
      · exact .inl ((set_true_iff hlt).2 (.inr rfl))
  refine ⟨by simp [h.len], fun z hz => ?_, fun z hz => ?_, fun x hx => hm1 (h.start x hx), fun z c d z0 hz hzg => ?_, fun z => ?_, ?_⟩
  · rcases (set_true_iff hlt).1 hz with hz | rfl
    · exact h.sound z hz
    · exact hin.2
  · rcases List.mem_append.1 hz with hz | hz
    · exact h.stack z (mem_snoc.2 (.inl hz))
    · obtain ⟨x, hx, hr⟩ := hin.2
      have hab := hw.ways y a b hg
      rcases List.mem_cons.1 hz with rfl | hz
      · exact ⟨hab.1, x, hx, hr.trans (.wayA h0 hg (.refl _))⟩
      · rw [List.mem_singleton.1 hz]
        exact ⟨hab.2, x, hx, hr.trans (.wayB h0 hg (.refl _))⟩
  · rcases (set_true_iff hlt).1 hz with hz | rfl
    · have := h.closed z c d z0 hz hzg
      exact ⟨hm1 this.1, hm1 this.2⟩
    · rw [hg] at hzg
      cases hzg
      exact ⟨.inr (by simp), .inr (by simp)⟩
  · rw [h.lists]
    constructor
    · rintro ⟨z0, hm, hp⟩; exact ⟨z0, (set_true_iff hlt).2 (.inl hm), hp⟩
    · rintro ⟨z0, hm, q, c, hp⟩
      rcases (set_true_iff hlt).1 hm with hm | rfl
      · exact ⟨z0, hm, q, c, hp⟩
      · rw [hg] at hp; cases hp
  · have := count_set hy
    have := h.cnt
    omega

/-- From one of some nodes on a text is accepted. -/
def AccX (G : List Nd) (X : Nat → Prop) (u : List Int) : Prop := ∃ x, X x ∧ Acc G x u

/-- Where the listed nodes lead with a rune. -/
def Leads (G : List Nd) (l : List Nat) (c : Int) (a : Nat) : Prop := ∃ y p, y ∈ l ∧ G[y]? = some (Nd.rune p a) ∧ p c = true

theorem Front.nil {G : List Nd} {X : Nat → Prop} {met : List Bool} {runes : List Nat} (h : Front G X met runes) : met[0]? = some true ↔ AccX G X [] := by
  rw [h.reach]
  constructor
  · rintro ⟨x, hx, hr⟩; exact ⟨x, hx, acc_nil.2 hr⟩
  · rintro ⟨x, hx, hr⟩; exact ⟨x, hx, acc_nil.1 hr⟩

theorem Front.cons {G : List Nd} {X : Nat → Prop} {met : List Bool} {runes : List Nat} (h : Front G X met runes) (c : Int) (u : List Int) : AccX G X (c :: u) ↔ AccX G (Leads G runes c) u := by
  constructor
  · rintro ⟨x, hx, ha⟩
    obtain ⟨y, p, a, hr, h0, hg, hp, ha⟩ := acc_cons.1 ha
    exact ⟨a, ⟨y, p, (h.lists y).2 ⟨h0, (h.reach y).2 ⟨x, hx, hr⟩, p, a, hg⟩, hg, hp⟩, ha⟩
  · rintro ⟨a, ⟨y, p, hy, hg, hp⟩, ha⟩
    obtain ⟨h0, hm, _⟩ := (h.lists y).1 hy
    obtain ⟨x, hx, hr⟩ := (h.reach y).1 hm
    exact ⟨x, hx, acc_cons.2 ⟨y, p, a, hr, h0, hg, hp, ha⟩⟩

theorem Front.congr {G : List Nd} {X Y : Nat → Prop} {met : List Bool} {runes : List Nat} (h : Front G X met runes) (e : ∀ x, X x ↔ Y x) : Front G Y met runes where
  len := h.len
  reach := fun y => (h.reach y).trans ⟨fun ⟨x, hx, hr⟩ => ⟨x, (e x).1 hx, hr⟩, fun ⟨x, hx, hr⟩ => ⟨x, (e x).2 hx, hr⟩⟩
  lists := h.lists
  cnt := h.cnt

theorem leads_take {G : List Nd} {l : List Nat} {c : Int} {j y : Nat} (hy : l[j]? = some y) (a : Nat) : Leads G (l.take (j + 1)) c a ↔ (Leads G (l.take j) c a ∨ ∃ p, G[y]? = some (.rune p a) ∧ p c = true) := by
  have e : l.take (j + 1) = l.take j ++ [y] := by
    rw [List.take_add_one, hy]; rfl
  rw [e]
  constructor
  · rintro ⟨z, p, hz, hg, hp⟩
    rcases mem_snoc.1 hz with hz | rfl
    · exact .inl ⟨z, p, hz, hg, hp⟩
    · exact .inr ⟨p, hg, hp⟩
  · rintro (⟨z, p, hz, hg, hp⟩ | ⟨p, hg, hp⟩)
    · exact ⟨z, p, mem_snoc.2 (.inl hz), hg, hp⟩
    · exact ⟨y, p, mem_snoc.2 (.inr rfl), hg, hp⟩

end Go.Proofs.YtgcmjidphoklkaaGreatDoor.Rx
