/- Layer 24's New: what is said of a world off some blocks; the tree in memory. -/
import Derived.Test.YteemciknbiloiaaGreatDoorRtK
namespace Go.Proofs.YteemciknbiloiaaGreatDoor.Ih
open Go.RowKit

attribute [local go_sem] run_store_one

/-- F holds, and whatever becomes of the blocks of D: it hangs on the others alone. -/
def Off (D : List Nat) (w : World) (F : World → Prop) : Prop :=
  ∀ w' : World, w.heap.size ≤ w'.heap.size → (∀ k, k < w.heap.size → k ∉ D → w'.heap[k]? = w.heap[k]?) → F w'

theorem Off.now {D : List Nat} {w : World} {F : World → Prop} (h : Off D w F) : F w := h w (Nat.le_refl _) fun _ _ _ => rfl

theorem Off.step {D D' : List Nat} {w w' : World} {F : World → Prop} (h : Off D w F) (hs : w.heap.size ≤ w'.heap.size) (e : ∀ k, k < w.heap.size → k ∉ D → w'.heap[k]? = w.heap[k]?) (hD : ∀ d, d ∈ D' → d ∈ D ∨ w.heap.size ≤ d) : Off D' w' F := by
  intro w2 h2 e2
  refine h w2 (Nat.le_trans hs h2) fun k hk hn => ?_
  exact (e2 k (by omega) (fun hd => (hD k hd).elim hn (fun q => by omega))).trans (e k hk hn)

theorem Off.below {D : List Nat} {w w' : World} {F : World → Prop} (h : Off D w F) (hb : Below w.heap.size w w') : Off D w' F :=
  h.step hb.size (fun k hk _ => hb.block k hk) (fun _ hd => .inl hd)

theorem Off.and {D : List Nat} {w : World} {F G : World → Prop} (h : Off D w F) (k : Off D w G) : Off D w (fun x => F x ∧ G x) := fun w' h1 h2 => ⟨h w' h1 h2, k w' h1 h2⟩

theorem ownsRow_agree {w w' : World} {base : Nat} {e : TypeId} {size : Nat} {v : Value} {n : Nat} {xs : List Value} (h : w.ownsRow base e size v n xs) (q : ∀ g, v.ownBlock = some g → w'.heap[g]? = w.heap[g]?) : w'.ownsRow base e size v n xs := by
  obtain ⟨h1, h2⟩ := h
  refine ⟨h1, h2.imp id ?_⟩
  rintro ⟨g, cap, cur, rfl, a2, a3, a4⟩
  exact ⟨g, cap, cur, rfl, a2, (q g rfl).trans a3, a4⟩

theorem LsNew.agree {w w' : World} {xb lo : Nat} {v : Value} {bs : List Nat} {l : List Mat} (h : LsNew w xb v bs l lo) (hs : w.heap.size ≤ w'.heap.size) (e : ∀ k, lo ≤ k → k < w.heap.size → w'.heap[k]? = w.heap[k]?) : LsNew w' xb v bs l lo where
  cell := (World.cell?_of_block (w := w) (a := ⟨xb, 0, none⟩) (e xb h.lo1 h.lt)).trans h.cell
  free := (World.frozen?_of_block (w := w) (a := ⟨xb, 0, none⟩) (e xb h.lo1 h.lt)).trans h.free
  own := ownsRow_agree h.own fun g hg => e g (h.own.lt g hg).1 (h.own.lt g hg).2
  len := h.len
  mt := fun i b m h1 h2 => (h.mt i b m h1 h2).imp fun _ k => k.like (e b (h.lo2 b (List.mem_of_getElem? h1)) k.lt) hs
  lo1 := h.lo1
  lo2 := h.lo2
  ne1 := h.ne1
  ne2 := h.ne2
  ne3 := h.ne3
  nd := h.nd
  lt := Nat.lt_of_lt_of_le h.lt hs

/-- What has just been made from lo on hangs on nothing that lay before. -/
theorem off_ls {D : List Nat} {w : World} {xb lo : Nat} {v : Value} {bs : List Nat} {l : List Mat} (h : LsNew w xb v bs l lo) (hD : ∀ d, d ∈ D → d < lo ∨ w.heap.size ≤ d) : Off D w (fun w' => LsNew w' xb v bs l lo) := fun w' hs e =>
  h.agree hs fun k h1 h2 => e k h2 fun hd => by rcases hD k hd with q | q <;> omega
theorem off_clm {D : List Nat} {w : World} {B : Nat} {v : Value} {ms : List Mat} (h : ClM B w v ms) (hD : ∀ d, d ∈ D → d < B ∨ w.heap.size ≤ d) : Off D w (fun w' => ClM B w' v ms) := fun w' hs e =>
  h.up hs fun k h1 h2 => e k h2 fun hd => by rcases hD k hd with q | q <;> omega
theorem off_cls {D : List Nat} {w : World} {B : Nat} {v : Value} {ns : List ByteArray} (h : ClS B w v ns) (hD : ∀ d, d ∈ D → d < B ∨ w.heap.size ≤ d) : Off D w (fun w' => ClS B w' v ns) := fun w' hs e =>
  h.up hs fun k h1 h2 => e k h2 fun hd => by rcases hD k hd with q | q <;> omega

/-- What New has made of a route: its lists cloned, what its matchers say (blocks from lo on, below hi). -/
structure Rec where
  mv : Value
  bv : Value
  xb : Nat
  v : Value
  bs : List Nat
  lo : Nat
  hi : Nat

/-- All that was made for a route lies from lo on, below hi. -/
structure Rec.In (c : Rec) : Prop where
  xb : c.lo ≤ c.xb ∧ c.xb < c.hi
  bs : ∀ b, b ∈ c.bs → c.lo ≤ b ∧ b < c.hi
  v : ∀ g, c.v.ownBlock = some g → c.lo ≤ g ∧ g < c.hi
  mv : ∀ g, c.mv.ownBlock = some g → c.lo ≤ g ∧ g < c.hi
  bv : ∀ g, c.bv.ownBlock = some g → c.lo ≤ g ∧ g < c.hi

def RecAt (w : World) (r : Rt) (c : Rec) : Prop := (ClM 0 w c.mv r.ms ∧ ClS 0 w c.bv r.ns ∧ LsNew w c.xb c.v c.bs r.ms c.lo) ∧ c.In

theorem ClM.own {B : Nat} {w : World} {v : Value} {ms : List Mat} (h : ClM B w v ms) (g : Nat) (hg : v.ownBlock = some g) : B ≤ g ∧ g < w.heap.size := by
  rcases h with ⟨_, rfl⟩ | ⟨g', c, rfl, _, h1, h2, _⟩
  · simp [Value.ownBlock] at hg
  · have e : g' = g := by simpa [Value.ownBlock] using hg
    exact ⟨e ▸ h1, e ▸ h2⟩
theorem ClS.own {B : Nat} {w : World} {v : Value} {ns : List ByteArray} (h : ClS B w v ns) (g : Nat) (hg : v.ownBlock = some g) : B ≤ g ∧ g < w.heap.size := by
  rcases h with ⟨_, rfl⟩ | ⟨g', c, rfl, _, _, h1, h2, _⟩
  · simp [Value.ownBlock] at hg
  · have e : g' = g := by simpa [Value.ownBlock] using hg
    exact ⟨e ▸ h1, e ▸ h2⟩
theorem LsNew.in {w : World} {c : Rec} {l : List Mat} {B : Nat} (h : LsNew w c.xb c.v c.bs l c.lo) {ms : List Mat} {ns : List ByteArray} (hm : ClM B w c.mv ms) (hs : ClS B w c.bv ns) (hB : c.lo ≤ B) (hh : w.heap.size ≤ c.hi) : c.In where
  xb := ⟨h.lo1, Nat.lt_of_lt_of_le h.lt hh⟩
  bs := fun b hb => ⟨h.lo2 b hb, Nat.lt_of_lt_of_le (h.mem_lt b hb) hh⟩
  v := fun g hg => ⟨(h.own.lt g hg).1, Nat.lt_of_lt_of_le (h.own.lt g hg).2 hh⟩
  mv := fun g hg => ⟨Nat.le_trans hB (hm.own g hg).1, Nat.lt_of_lt_of_le (hm.own g hg).2 hh⟩
  bv := fun g hg => ⟨Nat.le_trans hB (hs.own g hg).1, Nat.lt_of_lt_of_le (hs.own g hg).2 hh⟩

abbrev saysFn (c : Rec) : Value := .func (.func 45) #[.pointer (some ⟨c.xb, 0, none⟩)] #[]

def rtCells (r : Rt) (c : Rec) : List Value := [.int .i64 r.p, .string r.rc, c.mv, c.bv, .bool false, .int .i64 r.wt, .int .i64 r.iv, .int .i64 r.rp, .bool r.ct]

/-- The rows of a tree. -/
def flatR : List (Rt × Rec) → List Value
  | [] => []
  | (r, c) :: t => rtCells r c ++ flatR t

theorem flatR_append (a b : List (Rt × Rec)) : flatR (a ++ b) = flatR a ++ flatR b := by
  induction a with
  | nil => rfl
  | cons x t ih => obtain ⟨r, c⟩ := x; simp [flatR, ih]

theorem flatR_length (a : List (Rt × Rec)) : (flatR a).length = a.length * 9 := by
  induction a with
  | nil => rfl
  | cons x t ih => obtain ⟨r, c⟩ := x; simp [flatR, rtCells, ih]; omega

end Go.Proofs.YteemciknbiloiaaGreatDoor.Ih
