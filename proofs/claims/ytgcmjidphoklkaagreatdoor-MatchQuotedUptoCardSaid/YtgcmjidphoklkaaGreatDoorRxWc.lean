/- Walks over layer 5's reader: function values that are sets of runes, parts of one rune. -/
import Derived.Test.YtgcmjidphoklkaaGreatDoorRxWb
import Derived.Laws.EntriesVeiled
namespace Go.Proofs.YtgcmjidphoklkaaGreatDoor.Rx
open Go.RowKit Go.Sort

/-- The worlds in which what lies at the blocks C is as it is in w. -/
def Like (C : List Nat) (w w' : World) : Prop := (∀ k, k ∈ C → w'.heap[k]? = w.heap[k]?) ∧ w.heap.size ≤ w'.heap.size

theorem Like.refl (C : List Nat) (w : World) : Like C w w := ⟨fun _ _ => rfl, Nat.le_refl _⟩
theorem Like.trans {C : List Nat} {a b c : World} (h : Like C a b) (k : Like C b c) : Like C a c :=
  ⟨fun i hi => (k.1 i hi).trans (h.1 i hi), Nat.le_trans h.2 k.2⟩
theorem Like.sub {C D : List Nat} {a b : World} (h : Like C a b) (hs : ∀ k, k ∈ D → k ∈ C) : Like D a b := ⟨fun k hk => h.1 k (hs k hk), h.2⟩
theorem Like.of_below {C : List Nat} {w w' : World} (h : Below w.heap.size w w') (hC : ∀ k, k ∈ C → k < w.heap.size) : Like C w w' :=
  ⟨fun k hk => h.block k (hC k hk), h.size⟩
theorem Like.cell {C : List Nat} {w w' : World} (h : Like C w w') {p : Addr} (hp : p.block ∈ C) : w'.cell? p = w.cell? p := World.cell?_of_block (h.1 p.block hp)
theorem Like.frozen {C : List Nat} {w w' : World} (h : Like C w w') {p : Addr} (hp : p.block ∈ C) : w'.frozen? p = w.frozen? p := World.frozen?_of_block (h.1 p.block hp)

/-- Blocks that lie from lo on, below hi. -/
def InB (lo hi : Nat) (C : List Nat) : Prop := ∀ k, k ∈ C → lo ≤ k ∧ k < hi
theorem InB.nil (lo hi : Nat) : InB lo hi [] := fun _ h => by cases h
theorem InB.mono {lo hi lo' hi' : Nat} {C : List Nat} (h : InB lo hi C) (h1 : lo' ≤ lo) (h2 : hi ≤ hi') : InB lo' hi' C := fun k hk => by have := h k hk; omega
theorem InB.cons {lo hi k : Nat} {C : List Nat} (h : InB lo hi C) (h1 : lo ≤ k) (h2 : k < hi) : InB lo hi (k :: C) := fun i hi => by
  rcases List.mem_cons.1 hi with rfl | hi
  · exact ⟨h1, h2⟩
  · exact h i hi
theorem InB.append {lo hi : Nat} {C D : List Nat} (h : InB lo hi C) (k : InB lo hi D) : InB lo hi (C ++ D) := fun i hi => by
  rcases List.mem_append.1 hi with hi | hi
  · exact h i hi
  · exact k i hi

/-- The value v is a function that tells of each rune whether it is of p; it hangs on the blocks C alone. -/
def IsP (w : World) (C : List Nat) (v : Value) (p : Int → Bool) : Prop :=
  ∃ g cap, v = .func (.func g) #[] cap ∧ (∀ args w', (callFunc g args).run Tryz.prog w' = .ok (.enter g args) w') ∧ ∀ w', Like C w w' → ∀ c, Calls Tryz.prog g (#[.int .i32 c] ++ cap) w' fun e w'' => e = .returned (.bool (p c)) ∧ Below w'.heap.size w' w''

theorem IsP.like {w w' : World} {C : List Nat} {v : Value} {p : Int → Bool} (h : IsP w C v p) (hl : Like C w w') : IsP w' C v p := by
  obtain ⟨g, cap, rfl, he, h⟩ := h
  exact ⟨g, cap, rfl, he, fun w'' hl' c => h w'' (hl.trans hl') c⟩

theorem enters {g : FuncId} {fn : Func} {c : Code} (hf : Tryz.prog.funcs[g]? = some fn) (hname : (fn.name == "runtime.NumGoroutine") = false) (hb : fn.body = some c) (args : Array Value) (w : World) :
    (callFunc g args).run Tryz.prog w = .ok (.enter g args) w := by
  have h1 : fn.name ≠ "runtime.NumGoroutine" := by simpa using hname
  simp [callFunc, hf, h1, hb]

theorem isP_digit (w : World) : IsP w [] (.func (.func 102) #[] #[]) digitP :=
  ⟨_, _, rfl, enters Tryz.func102 (by kernel_rfl) rfl, fun w' _ c => (digit_any c w').mono fun _ _ ⟨he, hw⟩ => ⟨he, by subst hw; exact Below.refl _ _⟩⟩
theorem isP_letter (w : World) : IsP w [] (.func (.func 103) #[] #[]) letterP :=
  ⟨_, _, rfl, enters Tryz.func103 (by kernel_rfl) rfl, fun w' _ c => (letter_any c w').mono fun _ _ ⟨he, hw⟩ => ⟨he, by subst hw; exact Below.refl _ _⟩⟩
theorem isP_space (w : World) : IsP w [] (.func (.func 104) #[] #[]) spaceP :=
  ⟨_, _, rfl, enters Tryz.func104 (by kernel_rfl) rfl, fun w' _ c => (space_any c w').mono fun _ _ ⟨he, hw⟩ => ⟨he, by subst hw; exact Below.refl _ _⟩⟩

set_option maxHeartbeats 400000 in
theorem only1_any (w : World) (a : Addr) (c x : Int) (h : w.cell? a = some (.int .i32 c)) :
    Calls Tryz.prog 109 #[.int .i32 x, .pointer (some a)] w fun e w' => e = .returned (.bool (x == c)) ∧ w = w' := by
  go_enter Tryz.func109, Tryz.ntmps109
  go_wp2
  go_ret
  exact ⟨rfl, rfl⟩

/-- A new box that holds a rune: a function on it tells that rune. -/
theorem isP_only {w : World} {k : Nat} {c : Int} (h : w.cell? ⟨k, 0, none⟩ = some (.int .i32 c)) : IsP w [k] (.func (.func 109) #[] #[.pointer (some ⟨k, 0, none⟩)]) (fun x => x == c) :=
  ⟨_, _, rfl, enters Tryz.func109 (by kernel_rfl) rfl, fun w' hl x => (only1_any w' ⟨k, 0, none⟩ c x ((hl.cell (p := ⟨k, 0, none⟩) (by simp)).trans h)).mono fun _ _ ⟨he, hw⟩ => ⟨he, by subst hw; exact Below.refl _ _⟩⟩

/-- The nine cells of a part. -/
structure P9 where
  kind : Int
  is : Value
  plain : Bool
  r : Int
  kids : Value
  least : Int
  most : Int
  brace : Bool
  n : Int

def P9.arr (c : P9) : Array Value := #[.int .i64 c.kind, c.is, .bool c.plain, .int .i32 c.r, c.kids, .int .i64 c.least, .int .i64 c.most, .bool c.brace, .int .i64 c.n]
def P9.val (c : P9) : Value := .agg #[.int .i64 c.kind, c.is, .bool c.plain, .int .i32 c.r, c.kids, .int .i64 c.least, .int .i64 c.most, .bool c.brace, .int .i64 c.n]

def oneP (o : One) (f : Value) : P9 := ⟨0, f, o.plain.isSome, o.plain.getD 0, .slice none 0 0, 0, 0, false, 0⟩

/-- What a call that makes a part of one rune does: it hands back the part; what it needs is new. -/
def GivesOne (w : World) (o : One) (e : Ending) (w' : World) : Prop :=
  ∃ g cap C, e = .returned (.agg #[.int .i64 0, .func (.func g) #[] cap, .bool o.plain.isSome, .int .i32 (o.plain.getD 0), .slice none 0 0, .int .i64 0, .int .i64 0, .bool false, .int .i64 0]) ∧
    IsP w' C (.func (.func g) #[] cap) o.p ∧ InB w.heap.size w'.heap.size C ∧ Below w.heap.size w w'

set_option maxHeartbeats 400000 in
theorem only_any (w : World) (c : Int) :
    Calls Tryz.prog 97 #[.int .i32 c] w (GivesOne w (onlyP c)) := by
  have hmf : ∀ (fn : Fn) (first cap : Array Value) (w : World), (Instr.makeFunc fn first cap).run Tryz.prog w = .ok (.func fn first cap) w := fun _ _ _ _ => rfl
  go_enter Tryz.func97, Tryz.ntmps97
  go_wp2
  refine bodyPost_ret (v := (oneP (onlyP c) (.func (.func 109) #[] #[.pointer (some ⟨w.heap.size, 0, none⟩)])).val) (by simp [results, Tryz.results97, go_sem, oneP, P9.val, onlyP]) rfl ⟨_, _, _, rfl, isP_only (k := w.heap.size) ?_, ?_, ?_⟩
  · simp [go_sem]
  · exact (InB.nil _ _).cons (Nat.le_refl _) (by simp; omega)
  · exact ((Below.refl _ _).alloc (Nat.le_refl _) _).alloc (by simp) _

set_option maxHeartbeats 400000 in
theorem set_any (w : World) (B : Nat) (f : Value) (p : Int → Bool) (C : List Nat) (hp : IsP w C f p) (hC : InB B w.heap.size C) :
    Calls Tryz.prog 93 #[f] w fun e w' => e = .returned (.agg #[.int .i64 0, f, .bool false, .int .i32 0, .slice none 0 0, .int .i64 0, .int .i64 0, .bool false, .int .i64 0]) ∧ IsP w' C f p ∧ InB B w'.heap.size C ∧ Below w.heap.size w w' := by
  obtain ⟨g, cap, rfl, hen, hf⟩ := hp
  have HP : Hid (IsP w C (.func (.func g) #[] cap) p) := ⟨g, cap, rfl, hen, hf⟩
  have HC := Lib.hid hC
  clear hf hC hen
  go_enter Tryz.func93, Tryz.ntmps93
  go_wp2
  have hb : Below w.heap.size w (w.alloc (.cells #[.int .i64 0, .func (.func g) #[] cap, .bool false, .int .i32 0, .slice none 0 0, .int .i64 0, .int .i64 0, .bool false, .int .i64 0] 92)) := (Below.refl _ _).alloc (Nat.le_refl _) _
  refine bodyPost_ret (v := (oneP (setP p) (.func (.func g) #[] cap)).val) (by simp [results, Tryz.results93, go_sem, oneP, P9.val, setP]) rfl ⟨rfl, HP.out.like (Like.of_below hb fun k hk => (HC.out k hk).2), ?_, hb⟩
  exact HC.out.mono (Nat.le_refl _) (by simp)

set_option maxHeartbeats 400000 in
theorem not1_any (w : World) (a : Addr) (f : Value) (p : Int → Bool) (C : List Nat) (x : Int) (h : w.cell? a = some f) (hp : IsP w C f p) :
    Calls Tryz.prog 111 #[.int .i32 x, .pointer (some a)] w fun e w' => e = .returned (.bool (!p x)) ∧ Below w.heap.size w w' := by
  obtain ⟨g, cap, rfl, hen, hf⟩ := hp
  have h1 := hf w (Like.refl _ _) x
  have H := Lib.hid h1
  clear h1 hf
  go_enter Tryz.func111, Tryz.ntmps111
  go_wp2_with fail
  refine H.out.mono ?_
  rintro e w1 ⟨rfl, hb⟩
  go_wp2
  go_ret
  exact ⟨rfl, hb⟩

theorem isP_not {w : World} {k : Nat} {f : Value} {p : Int → Bool} {C : List Nat} (h : w.cell? ⟨k, 0, none⟩ = some f) (hp : IsP w C f p) :
    IsP w (k :: C) (.func (.func 111) #[] #[.pointer (some ⟨k, 0, none⟩)]) (fun x => !p x) :=
  ⟨_, _, rfl, enters Tryz.func111 (by kernel_rfl) rfl, fun w' hl x => not1_any w' ⟨k, 0, none⟩ f p C x ((hl.cell (p := ⟨k, 0, none⟩) (by simp)).trans h) (hp.like (hl.sub fun _ hi => List.mem_cons_of_mem _ hi))⟩

/-- What a call that makes a function does. -/
def GivesP (B : Nat) (w : World) (p : Int → Bool) (e : Ending) (w' : World) : Prop :=
  ∃ g cap C, e = .returned (.func (.func g) #[] cap) ∧ IsP w' C (.func (.func g) #[] cap) p ∧ InB B w'.heap.size C ∧ Below w.heap.size w w'

set_option maxHeartbeats 400000 in
theorem not_any (w : World) (B : Nat) (f : Value) (p : Int → Bool) (C : List Nat) (hp : IsP w C f p) (hC : InB B w.heap.size C) (hB : B ≤ w.heap.size) :
    Calls Tryz.prog 105 #[f] w (GivesP B w fun x => !p x) := by
  have hmf : ∀ (fn : Fn) (first cap : Array Value) (w : World), (Instr.makeFunc fn first cap).run Tryz.prog w = .ok (.func fn first cap) w := fun _ _ _ _ => rfl
  obtain ⟨g, cap, rfl, hen, hf⟩ := hp
  have HP : Hid (IsP w C (.func (.func g) #[] cap) p) := ⟨g, cap, rfl, hen, hf⟩
  have HC := Lib.hid hC
  clear hf hC hen
  go_enter Tryz.func105, Tryz.ntmps105
  go_wp2
  go_ret
  have hb : Below w.heap.size w (w.alloc (.cells #[.func (.func g) #[] cap] 40)) := (Below.refl _ _).alloc (Nat.le_refl _) _
  refine ⟨_, _, _, rfl, isP_not (k := w.heap.size) (f := .func (.func g) #[] cap) (by simp [go_sem]) (HP.out.like (Like.of_below hb fun k hk => (HC.out k hk).2)), ?_, hb⟩
  exact (HC.out.mono (Nat.le_refl _) (by simp)).cons hB (by simp)

end Go.Proofs.YtgcmjidphoklkaaGreatDoor.Rx
