/-
  Small general words for this seat's walks: later worlds, blocks known whole, a region that draws its order and whose callees make memory. No condition beyond those that each theorem states.
-/
import Derived.WalkKit
import Derived.WalkSpells
import Derived.WalkLawsBesides
import Derived.Deep.QuietTactic
import Derived.BigQuiet
import Derived.Outline
import Derived.Lib.Hide
namespace Go.Proofs.YtfhmdeamhmjddaaDoor
open Go.RowKit

/-- A fact that the walk does not look into. -/
structure Hd (p : Prop) : Prop where
  out : p
theorem hd {p : Prop} (h : p) : Hd p := ⟨h⟩

/-- w' is a later world than w: of the blocks that were there only those of L may have turned. -/
structure Upd (L : List Nat) (w w' : World) : Prop where
  os : w'.os = w.os
  tape : w'.tape = w.tape
  output : w'.output = w.output
  size : w.heap.size ≤ w'.heap.size
  block : ∀ k, k < w.heap.size → k ∉ L → w'.heap[k]? = w.heap[k]?

theorem Upd.refl (L : List Nat) (w : World) : Upd L w w := ⟨rfl, rfl, rfl, Nat.le_refl _, fun _ _ _ => rfl⟩
theorem Upd.trans {L : List Nat} {a b c : World} (h : Upd L a b) (k : Upd L b c) : Upd L a c :=
  ⟨k.os.trans h.os, k.tape.trans h.tape, k.output.trans h.output, Nat.le_trans h.size k.size, fun i hi hn => (k.block i (Nat.lt_of_lt_of_le hi h.size) hn).trans (h.block i hi hn)⟩
/-- The second step may turn new blocks, and those of the first's list. -/
theorem Upd.trans' {L M : List Nat} {a b c : World} (h : Upd L a b) (k : Upd M b c) (hM : ∀ i ∈ M, i ∈ L ∨ a.heap.size ≤ i) : Upd L a c :=
  ⟨k.os.trans h.os, k.tape.trans h.tape, k.output.trans h.output, Nat.le_trans h.size k.size, fun i hi hn =>
    (k.block i (Nat.lt_of_lt_of_le hi h.size) (fun hm => (hM i hm).elim hn (fun h1 => by omega))).trans (h.block i hi hn)⟩
theorem Upd.mono {L M : List Nat} {w w' : World} (h : Upd L w w') (hM : ∀ i ∈ L, i ∈ M ∨ w.heap.size ≤ i) : Upd M w w' := (Upd.refl M w).trans' h hM
theorem Upd.drew {L : List Nat} {a w : World} (h : Upd L a w) : Upd L a w.drew := ⟨h.os, h.tape, h.output, h.size, h.block⟩
theorem Upd.alloc {L : List Nat} {a w : World} (h : Upd L a w) (o : Obj) : Upd L a (w.alloc o) :=
  h.trans ⟨rfl, rfl, rfl, by simp, fun k hk _ => Below.heap_alloc _ _ _ hk⟩
theorem Upd.setCell {L : List Nat} {a w : World} (h : Upd L a w) {p : Addr} (hp : p.block ∈ L ∨ a.heap.size ≤ p.block) (u : Value) : Upd L a (w.setCell p u) :=
  ⟨h.os, h.tape, h.output, by have := h.size; simpa [World.setCell] using this, fun k hk hn => by
    rw [Below.heap_setCell _ _ _ _ (fun e => by subst e; exact hp.elim hn (fun h1 => by omega))]; exact h.block k hk hn⟩
theorem Upd.below {L : List Nat} {w w' : World} {B : Nat} (h : Upd L w w') (hB : B ≤ w.heap.size) (hL : ∀ i ∈ L, B ≤ i) : Below B w w' :=
  ⟨h.os, h.tape, h.output, h.size, fun k hk => h.block k (by omega) (fun hm => by have := hL k hm; omega)⟩
theorem Upd.of_below {w w' : World} (h : Below w.heap.size w w') (L : List Nat) : Upd L w w' := ⟨h.os, h.tape, h.output, h.size, fun k hk _ => h.block k hk⟩

/-- A block known whole, of cells that may be written. -/
abbrev Blk (w : World) (k : Nat) (c : Array Value) (T : TypeId) : Prop := w.heap[k]? = some (.cells c T)

theorem Blk.cell {w : World} {k : Nat} {c : Array Value} {T : TypeId} (h : Blk w k c T) (o : Nat) : w.cell? ⟨k, o, none⟩ = c[o]? := by
  simp only [World.cell?]; rw [h]; rfl
theorem Blk.frozen {w : World} {k : Nat} {c : Array Value} {T : TypeId} (h : Blk w k c T) (o : Nat) : w.frozen? ⟨k, o, none⟩ = false := by
  simp only [World.frozen?]; rw [h]; simp
theorem Blk.lt {w : World} {k : Nat} {c : Array Value} {T : TypeId} (h : Blk w k c T) : k < w.heap.size := by
  rcases Nat.lt_or_ge k w.heap.size with h1 | h1
  · exact h1
  · rw [Blk, Array.getElem?_eq_none h1] at h; cases h
theorem Blk.upd {L : List Nat} {w w' : World} {k : Nat} {c : Array Value} {T : TypeId} (h : Blk w k c T) (hu : Upd L w w') (hk : k ∉ L) : Blk w' k c T :=
  (hu.block k h.lt hk).trans h
theorem Blk.alloc {w : World} {k : Nat} {c : Array Value} {T : TypeId} (h : Blk w k c T) (o : Obj) : Blk (w.alloc o) k c T :=
  (Below.heap_alloc _ _ _ h.lt).trans h
theorem Blk.new (w : World) (c : Array Value) (T : TypeId) : Blk (w.alloc (.cells c T)) w.heap.size c T := by
  show (w.heap.push _)[w.heap.size]? = _
  simp
theorem Blk.new' (w : World) {k : Nat} (c : Array Value) (T : TypeId) (hk : k = w.heap.size) : Blk (w.alloc (.cells c T)) k c T := by subst hk; exact Blk.new w c T
theorem Blk.drew {w : World} {k : Nat} {c : Array Value} {T : TypeId} (h : Blk w k c T) : Blk w.drew k c T := h
theorem Blk.set {w : World} {k : Nat} {c : Array Value} {T : TypeId} (h : Blk w k c T) (o : Nat) (v : Value) : Blk (w.setCell ⟨k, o, none⟩ v) k (c.setIfInBounds o v) T := by
  simp only [Blk, World.setCell, Array.getElem?_modify] at *
  simp [h]
theorem Blk.set_other {w : World} {k : Nat} {c : Array Value} {T : TypeId} (h : Blk w k c T) {p : Addr} (hp : k ≠ p.block) (v : Value) : Blk (w.setCell p v) k c T :=
  (Below.heap_setCell _ _ _ _ hp).trans h

/-- A later world, as one thing. -/
structure Later (L : List Nat) (w : World) where
  world : World
  upd : Upd L w world

instance later_some (L : List Nat) (w : World) : Nonempty (Later L w) := ⟨⟨w, Upd.refl L w⟩⟩

theorem Later.blk {L : List Nat} {w : World} (x : Later L w) {k : Nat} {c : Array Value} {T : TypeId} (h : Blk w k c T) (hk : k ∉ L) : Blk x.world k c T := h.upd x.upd hk

/-- A REGION THAT DRAWS ITS ORDER, whose operations only read and whose callees hand back one value each and turn at most the blocks of L: one walk of the text's order. -/
theorem wp_region_later {P : Program} {id : Nat} {Q : Exit → Act → World → Prop} {a : Act} {w : World} {l : List Oper} (L : List Nat) (hm : P.follows .mixedOrders = true) (hB : Region.lexB .any l.toArray = true)
    (h : wpQuiet P l.toArray (fun w' => ∃ x : Later L w, w' = x.world) (fun a' => ∀ w', Upd L w w' → Q .normal a' w') l a) : (Code.region id l.toArray true).wp P Q a w := by
  refine wp_region_quiet (C := fun w' => ∃ x : Later L w, w' = x.world) hm hB ⟨⟨_, (Upd.refl L w).drew⟩, rfl⟩ ?_
  have e : (fun a' => ∀ w', (∃ x : Later L w, w' = x.world) → Q .normal a' w') = (fun a' => ∀ w', Upd L w w' → Q .normal a' w') := by
    funext a'; apply propext; exact ⟨fun h w' hu => h _ ⟨⟨w', hu⟩, rfl⟩, fun h w' ⟨x, e⟩ => e ▸ h _ x.upd⟩
  rw [e]; simpa using h

/-- A call in such a region: a contract for every later world. -/
theorem later_call {P : Program} {f : FuncId} {args : Array Value} {L : List Nat} {w : World} {v : Value} {x : Later L w}
    (h : Calls P f args x.world fun e w' => e = .returned v ∧ Upd L x.world w') : Calls P f args x.world fun e w'' => e = .returned v ∧ ∃ y : Later L w, w'' = y.world :=
  h.mono fun _ w' ⟨he, hu⟩ => ⟨he, ⟨w', x.upd.trans hu⟩, rfl⟩

/-- A slice of whole numbers; its cells do not lie in block b. -/
def IntsAt (b : Nat) (w : World) (v : Value) (cs : List Int) : Prop :=
  ∃ (a : Option Addr) (c : Nat), v = .slice a cs.length c ∧ cs.length ≤ c ∧ c ≤ 9223372036854775807 ∧ (cs ≠ [] → ∃ k o, a = some ⟨k, o, none⟩ ∧ k ≠ b ∧ k < w.heap.size ∧ ∀ i (_ : i < cs.length), w.cell? ⟨k, o + i, none⟩ = some (.int .i64 (cs.getD i 0)))

theorem IntsAt.upd {b : Nat} {L : List Nat} {w w' : World} {v : Value} {cs : List Int} (h : IntsAt b w v cs) (hu : Upd L w w') (hL : ∀ i ∈ L, i = b) : IntsAt b w' v cs := by
  obtain ⟨a, c, h1, h2, h3, h4⟩ := h
  refine ⟨a, c, h1, h2, h3, fun hn => ?_⟩
  obtain ⟨k, o, e, hk, hl, hc⟩ := h4 hn
  refine ⟨k, o, e, hk, Nat.lt_of_lt_of_le hl hu.size, fun i hi => ?_⟩
  rw [← hc i hi]
  exact World.cell?_of_block (hu.block k hl (fun hm => hk (hL k hm)))

end Go.Proofs.YtfhmdeamhmjddaaDoor
