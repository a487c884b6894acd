/-
  Small general words for this seat's walks: later worlds, blocks known whole, a region that draws its order and whose callees make memory. No condition beyond those that each theorem states.
-/
import Derived.WalkKit
import Derived.WalkSpells
import Derived.WalkLawsBesides
import Derived.Deep.QuietTactic
import Derived.BigQuiet
import Derived.Outline
import Derived.Lib.Hide
import Derived.OwnWalk
import Derived.Lib.ConvBytes
import Derived.Laws.BytesArg
import Derived.Laws.BitsAllLaws
import Derived.Test.YtpniggmdokkkcaaGreatDoorProg
import Derived.Lib.SplitLaws
import Derived.Lib.CountLaws
import Derived.Lib.IndexBytes
namespace Go.Proofs.YtpniggmdokkkcaaGreatDoor
open Go.RowKit

/-- A fact that the walk does not look into. -/
structure Hd (p : Prop) : Prop where
  out : p
theorem hd {p : Prop} (h : p) : Hd p := ⟨h⟩

/-- w' is a later world than w: of the blocks that were there only those of L may have turned. -/
structure Upd (L : List Nat) (w w' : World) : Prop where
  os : w'.os = w.os
  tape : w'.tape = w.tape
  output : w'.output = w.output
  size : w.heap.size ≤ w'.heap.size
  block : ∀ k, k < w.heap.size → k ∉ L → w'.heap[k]? = w.heap[k]?

theorem Upd.refl (L : List Nat) (w : World) : Upd L w w := ⟨rfl, rfl, rfl, Nat.le_refl _, fun _ _ _ => rfl⟩
theorem Upd.trans {L : List Nat} {a b c : World} (h : Upd L a b) (k : Upd L b c) : Upd L a c :=
  ⟨k.os.trans h.os, k.tape.trans h.tape, k.output.trans h.output, Nat.le_trans h.size k.size, fun i hi hn => (k.block i (Nat.lt_of_lt_of_le hi h.size) hn).trans (h.block i hi hn)⟩
/-- The second step may turn new blocks, and those of the first's list. -/
theorem Upd.trans' {L M : List Nat} {a b c : World} (h : Upd L a b) (k : Upd M b c) (hM : ∀ i ∈ M, i ∈ L ∨ a.heap.size ≤ i) : Upd L a c :=
  ⟨k.os.trans h.os, k.tape.trans h.tape, k.output.trans h.output, Nat.le_trans h.size k.size, fun i hi hn =>
    (k.block i (Nat.lt_of_lt_of_le hi h.size) (fun hm => (hM i hm).elim hn (fun h1 => by omega))).trans (h.block i hi hn)⟩
theorem Upd.mono {L M : List Nat} {w w' : World} (h : Upd L w w') (hM : ∀ i ∈ L, i ∈ M ∨ w.heap.size ≤ i) : Upd M w w' := (Upd.refl M w).trans' h hM
theorem Upd.drew {L : List Nat} {a w : World} (h : Upd L a w) : Upd L a w.drew := ⟨h.os, h.tape, h.output, h.size, h.block⟩
theorem Upd.alloc {L : List Nat} {a w : World} (h : Upd L a w) (o : Obj) : Upd L a (w.alloc o) :=
  h.trans ⟨rfl, rfl, rfl, by simp, fun k hk _ => Below.heap_alloc _ _ _ hk⟩
theorem Upd.setCell {L : List Nat} {a w : World} (h : Upd L a w) {p : Addr} (hp : p.block ∈ L ∨ a.heap.size ≤ p.block) (u : Value) : Upd L a (w.setCell p u) :=
  ⟨h.os, h.tape, h.output, by have := h.size; simpa [World.setCell] using this, fun k hk hn => by
    rw [Below.heap_setCell _ _ _ _ (fun e => by subst e; exact hp.elim hn (fun h1 => by omega))]; exact h.block k hk hn⟩
theorem Upd.below {L : List Nat} {w w' : World} {B : Nat} (h : Upd L w w') (hB : B ≤ w.heap.size) (hL : ∀ i ∈ L, B ≤ i) : Below B w w' :=
  ⟨h.os, h.tape, h.output, h.size, fun k hk => h.block k (by omega) (fun hm => by have := hL k hm; omega)⟩
theorem Upd.of_below {w w' : World} (h : Below w.heap.size w w') (L : List Nat) : Upd L w w' := ⟨h.os, h.tape, h.output, h.size, fun k hk _ => h.block k hk⟩

/-- A block known whole, of cells that may be written. -/
abbrev Blk (w : World) (k : Nat) (c : Array Value) (T : TypeId) : Prop := w.heap[k]? = some (.cells c T)

theorem Blk.cell {w : World} {k : Nat} {c : Array Value} {T : TypeId} (h : Blk w k c T) (o : Nat) : w.cell? ⟨k, o, none⟩ = c[o]? := by
  simp only [World.cell?]; rw [h]; rfl
theorem Blk.frozen {w : World} {k : Nat} {c : Array Value} {T : TypeId} (h : Blk w k c T) (o : Nat) : w.frozen? ⟨k, o, none⟩ = false := by
  simp only [World.frozen?]; rw [h]; simp
theorem Blk.lt {w : World} {k : Nat} {c : Array Value} {T : TypeId} (h : Blk w k c T) : k < w.heap.size := by
  rcases Nat.lt_or_ge k w.heap.size with h1 | h1
  · exact h1
  · rw [Blk, Array.getElem?_eq_none h1] at h; cases h
theorem Blk.upd {L : List Nat} {w w' : World} {k : Nat} {c : Array Value} {T : TypeId} (h : Blk w k c T) (hu : Upd L w w') (hk : k ∉ L) : Blk w' k c T :=
  (hu.block k h.lt hk).trans h
theorem Blk.alloc {w : World} {k : Nat} {c : Array Value} {T : TypeId} (h : Blk w k c T) (o : Obj) : Blk (w.alloc o) k c T :=
  (Below.heap_alloc _ _ _ h.lt).trans h
theorem Blk.new (w : World) (c : Array Value) (T : TypeId) : Blk (w.alloc (.cells c T)) w.heap.size c T := by
  show (w.heap.push _)[w.heap.size]? = _
  simp
theorem Blk.new' (w : World) {k : Nat} (c : Array Value) (T : TypeId) (hk : k = w.heap.size) : Blk (w.alloc (.cells c T)) k c T := by subst hk; exact Blk.new w c T
theorem Blk.drew {w : World} {k : Nat} {c : Array Value} {T : TypeId} (h : Blk w k c T) : Blk w.drew k c T := h
theorem Blk.set {w : World} {k : Nat} {c : Array Value} {T : TypeId} (h : Blk w k c T) (o : Nat) (v : Value) : Blk (w.setCell ⟨k, o, none⟩ v) k (c.setIfInBounds o v) T := by
  simp only [Blk, World.setCell, Array.getElem?_modify] at *
  simp [h]
theorem Blk.set_other {w : World} {k : Nat} {c : Array Value} {T : TypeId} (h : Blk w k c T) {p : Addr} (hp : k ≠ p.block) (v : Value) : Blk (w.setCell p v) k c T :=
  (Below.heap_setCell _ _ _ _ hp).trans h

/-- A later world, as one thing. -/
structure Later (L : List Nat) (w : World) where
  world : World
  upd : Upd L w world

instance later_some (L : List Nat) (w : World) : Nonempty (Later L w) := ⟨⟨w, Upd.refl L w⟩⟩

theorem Later.blk {L : List Nat} {w : World} (x : Later L w) {k : Nat} {c : Array Value} {T : TypeId} (h : Blk w k c T) (hk : k ∉ L) : Blk x.world k c T := h.upd x.upd hk

/-- A REGION THAT DRAWS ITS ORDER, whose operations only read and whose callees hand back one value each and turn at most the blocks of L: one walk of the text's order. -/
theorem wp_region_later {P : Program} {id : Nat} {Q : Exit → Act → World → Prop} {a : Act} {w : World} {l : List Oper} (L : List Nat) (hm : P.follows .mixedOrders = true) (hB : Region.lexB .any l.toArray = true)
    (h : wpQuiet P l.toArray (fun w' => ∃ x : Later L w, w' = x.world) (fun a' => ∀ w', Upd L w w' → Q .normal a' w') l a) : (Code.region id l.toArray true).wp P Q a w := by
  refine wp_region_quiet (C := fun w' => ∃ x : Later L w, w' = x.world) hm hB ⟨⟨_, (Upd.refl L w).drew⟩, rfl⟩ ?_
  have e : (fun a' => ∀ w', (∃ x : Later L w, w' = x.world) → Q .normal a' w') = (fun a' => ∀ w', Upd L w w' → Q .normal a' w') := by
    funext a'; apply propext; exact ⟨fun h w' hu => h _ ⟨⟨w', hu⟩, rfl⟩, fun h w' ⟨x, e⟩ => e ▸ h _ x.upd⟩
  rw [e]; simpa using h

/-- A call in such a region: a contract for every later world. -/
theorem later_call {P : Program} {f : FuncId} {args : Array Value} {L : List Nat} {w : World} {v : Value} {x : Later L w}
    (h : Calls P f args x.world fun e w' => e = .returned v ∧ Upd L x.world w') : Calls P f args x.world fun e w'' => e = .returned v ∧ ∃ y : Later L w, w'' = y.world :=
  h.mono fun _ w' ⟨he, hu⟩ => ⟨he, ⟨w', x.upd.trans hu⟩, rfl⟩

/-- A slice of whole numbers; its cells do not lie in block b. -/
def IntsAt (b : Nat) (w : World) (v : Value) (cs : List Int) : Prop :=
  ∃ (a : Option Addr) (c : Nat), v = .slice a cs.length c ∧ cs.length ≤ c ∧ c ≤ 9223372036854775807 ∧ (cs ≠ [] → ∃ k o, a = some ⟨k, o, none⟩ ∧ k ≠ b ∧ k < w.heap.size ∧ ∀ i (_ : i < cs.length), w.cell? ⟨k, o + i, none⟩ = some (.int .i64 (cs.getD i 0)))

theorem IntsAt.upd {b : Nat} {L : List Nat} {w w' : World} {v : Value} {cs : List Int} (h : IntsAt b w v cs) (hu : Upd L w w') (hL : ∀ i ∈ L, i = b) : IntsAt b w' v cs := by
  obtain ⟨a, c, h1, h2, h3, h4⟩ := h
  refine ⟨a, c, h1, h2, h3, fun hn => ?_⟩
  obtain ⟨k, o, e, hk, hl, hc⟩ := h4 hn
  refine ⟨k, o, e, hk, Nat.lt_of_lt_of_le hl hu.size, fun i hi => ?_⟩
  rw [← hc i hi]
  exact World.cell?_of_block (hu.block k hl (fun hm => hk (hL k hm)))

end Go.Proofs.YtpniggmdokkkcaaGreatDoor

/-
  Laws of the walk at single operations whose new world is left a variable: a string turned into bytes, and back. No condition beyond those that each theorem states.
-/
set_option linter.unusedVariables false
namespace Go.Proofs.YtpniggmdokkkcaaGreatDoor
open Go.RowKit

/-- One operation that yields a value: what is known of it and of the world behind it is all that is handed on. -/
theorem wpList_run {P : Program} {ops : Array Oper} {rest : List Oper} {o : Oper} {a : Act} {w : World} {Q : Exit → Act → World → Prop} (hg : o.guard = none) (R : Value → World → Prop)
    (hrun : ∃ v w', (execOp a.eval o).run P w = .ok (.value v) w' ∧ R v w') (h : ∀ v w', R v w' → wpList P ops Q rest (a.put o.dst v) w') : wpList P ops Q (o :: rest) a w := by
  refine wpList_plain hg fun K hK => ?_
  obtain ⟨v, w', hr, hR⟩ := hrun
  unfold Oper.wp
  rw [hr]
  exact hK _ _ (h v w' hR)

/-- Bytes in a row of memory, from place o on. -/
def BytesAt (w : World) (k o : Nat) (s : ByteArray) : Prop := ∀ i, i < s.size → w.cell? ⟨k, o + i, none⟩ = some (.int .u8 ((s.data.toList.getD i 0).toNat : Int))

theorem wpList_conv_bytes {P : Program} {ops : Array Oper} {rest : List Oper} {o : Oper} {a : Act} {w : World} {Q : Exit → Act → World → Prop} (hg : o.guard = none) (src dst e : TypeId) (x : Operand) (ho : o.op = .convert src dst x)
    (s : ByteArray) (hx : a.eval x = .string s) {u : TypeDesc} (hs : P.underlying src = some u) (hd : P.underlying dst = some (.slice e)) (he : P.underlying e = some (.int .u8))
    (h : ∀ k c w', w.heap.size ≤ k → k < w'.heap.size → s.size ≤ c → Upd [] w w' → BytesAt w' k 0 s → (∀ i, i < s.size → w'.frozen? ⟨k, i, none⟩ = false) → wpList P ops Q rest (a.put o.dst (.slice (some ⟨k, 0, none⟩) s.size c)) w') :
    wpList P ops Q (o :: rest) a w := by
  refine wpList_run hg (fun v w' => v = .slice (some ⟨w.heap.size, 0, none⟩) s.size (grownCap w s.size 0 e) ∧ w' = Lib.bytesWorld w e s) ⟨_, _, ?_, rfl, rfl⟩ ?_
  · unfold execOp
    simp only [ho, hx, Sem.run_bind, Lib.run_convert_string_bytes w src dst e s hs hd he, Result.andThen_ok, Sem.run_pure]
  · rintro _ _ ⟨rfl, rfl⟩
    refine h w.heap.size _ _ (Nat.le_refl _) (by rw [Lib.bytesWorld_size]; omega) (grownCap_ge _ _ _ _) ⟨?_, ?_, ?_, by rw [Lib.bytesWorld_size]; omega, fun k hk _ => Lib.bytesWorld_at_old w e s k hk⟩ (fun i hi => by rw [Nat.zero_add]; exact Lib.bytesWorld_cell w e s i hi) (fun i hi => ?_)
    · rfl
    · rfl
    · rfl
    · simp only [World.frozen?, Lib.bytesWorld_at_new]
      have : (Lib.bytesCells w e s).size ≥ s.size := by simp [Lib.bytesCells]
      simp; omega

theorem wpList_conv_string {P : Program} {ops : Array Oper} {rest : List Oper} {o : Oper} {a : Act} {w : World} {Q : Exit → Act → World → Prop} (hg : o.guard = none) (src dst e : TypeId) (x : Operand) (ho : o.op = .convert src dst x)
    (k of n c : Nat) (s : ByteArray) (hx : a.eval x = .slice (some ⟨k, of, none⟩) n c) (hs : P.underlying src = some (.slice e)) (he : P.underlying e = some (.int .u8)) (hd : P.underlying dst = some .string)
    (hn : s.size = n) (hb : BytesAt w k of s) (h : wpList P ops Q rest (a.put o.dst (.string s)) w) : wpList P ops Q (o :: rest) a w := by
  have hr := run_convert_bytes_arg (P := P) w src e hs he k of n c (s.data.toList.map fun b => (b.toNat : Int)) (by simpa using hn) (fun i hi => by
    have hi' : i < s.data.size := by have : s.data.size = n := hn; omega
    rw [hb i (by omega)]
    have h1 : s.data[i]? = some s.data[i] := Array.getElem?_eq_getElem hi'
    simp [List.getD, h1]) dst hd
  have e1 : strOfNums (s.data.toList.map fun b => (b.toNat : Int)) = s := by
    simp only [strOfNums, List.map_map]
    apply ByteArray.ext
    simp [Function.comp_def]
  rw [e1] at hr
  refine wpList_run hg (fun v w' => v = .string s ∧ w' = w) ⟨_, _, ?_, rfl, rfl⟩ (by rintro _ _ ⟨rfl, rfl⟩; exact h)
  unfold execOp
  simp only [ho, hx, Sem.run_bind, hr, Result.andThen_ok, Sem.run_pure]

/-! ### Rows that the call owns -/

theorem Upd.of_grown {w w' : World} {row : Option Nat} (h : w.grownBy w' row) : Upd row.toList w w' :=
  ⟨h.os, h.tape, h.output, h.size, fun k hk hn => h.block k hk (fun e => by cases row with | none => cases e | some r => cases e; simp at hn)⟩

theorem own_cases {w : World} {B T sz : Nat} {v : Value} {n : Nat} {xs : List Value} (h : w.ownsRow B T sz v n xs) (hn : 0 < n) :
    ∃ g cap, v = .slice (some ⟨g, 0, none⟩) n cap ∧ B ≤ g ∧ g < w.heap.size ∧ n ≤ cap ∧ (∀ j, j < n * sz → w.cell? ⟨g, j, none⟩ = xs[j]?) ∧ (∀ j, w.frozen? ⟨g, j, none⟩ = false) := by
  obtain ⟨hl, h⟩ := h
  rcases h with ⟨_, rfl⟩ | ⟨g, cap, cur, rfl, hb, hg, hnc, hcm, hcs, ht⟩
  · omega
  · refine ⟨g, cap, rfl, hb, ?_, hnc, fun j hj => ?_, fun j => Blk.frozen hg j⟩
    · exact Blk.lt hg
    · rw [Blk.cell hg j, ← ht, List.getElem?_take, if_pos hj]; simp

theorem own_upd {w w' : World} {B T sz : Nat} {v : Value} {n : Nat} {xs : List Value} {L : List Nat} (h : w.ownsRow B T sz v n xs) (hu : Upd L w w') (hL : ∀ g, v.ownBlock = some g → g ∉ L) : w'.ownsRow B T sz v n xs := by
  refine ⟨h.1, ?_⟩
  rcases h.2 with hn | ⟨g, cap, cur, rfl, hb, hg, rest⟩
  · exact .inl hn
  · exact .inr ⟨g, cap, cur, rfl, hb, Blk.upd hg hu (hL g rfl), rest⟩

theorem own_mono {w : World} {B B' T sz : Nat} {v : Value} {n : Nat} {xs : List Value} (h : w.ownsRow B T sz v n xs) (hB : B' ≤ B) : w.ownsRow B' T sz v n xs := by
  refine ⟨h.1, ?_⟩
  rcases h.2 with hn | ⟨g, cap, cur, rfl, hb, rest⟩
  · exact .inl hn
  · exact .inr ⟨g, cap, cur, rfl, Nat.le_trans hB hb, rest⟩

theorem own_ne_blk {w : World} {B T sz k T' : Nat} {c : Array Value} {g cap n : Nat} {xs : List Value} (h : w.ownsRow B T sz (.slice (some ⟨g, 0, none⟩) n cap) n xs) (hb : Blk w k c T') (hT : T ≠ T') : g ≠ k := by
  rintro rfl
  obtain ⟨_, h⟩ := h
  rcases h with ⟨he, _⟩ | ⟨g', cap', cur, he, hb', hg, _⟩
  · cases he
  · simp only [Value.slice.injEq, Option.some.injEq, Addr.mk.injEq, and_true, true_and] at he
    obtain ⟨rfl, rfl⟩ := he
    rw [Blk, hg] at hb
    simp only [Option.some.injEq, Obj.cells.injEq] at hb
    exact hT hb.2.1

theorem own_set {w : World} {B T sz : Nat} {g n cap : Nat} {xs : List Value} (h : w.ownsRow B T sz (.slice (some ⟨g, 0, none⟩) n cap) n xs) (j : Nat) (hj : j < n * sz) (u : Value) : (w.setCell ⟨g, j, none⟩ u).ownsRow B T sz (.slice (some ⟨g, 0, none⟩) n cap) n (xs.set j u) := by
  obtain ⟨hl, h⟩ := h
  refine ⟨by simpa using hl, ?_⟩
  rcases h with ⟨he, _⟩ | ⟨g', cap', cur, he, hb, hg, hnc, hcm, hcs, ht⟩
  · cases he
  · simp only [Value.slice.injEq, Option.some.injEq, Addr.mk.injEq, and_true, true_and] at he
    obtain ⟨rfl, rfl⟩ := he
    exact .inr ⟨g, cap, cur.setIfInBounds j u, rfl, hb, Blk.set hg j u, hnc, hcm, by simpa using hcs, by rw [← ht]; simp [List.take_set]⟩

end Go.Proofs.YtpniggmdokkkcaaGreatDoor

/-
  Rows of cells that one owns: how they open, where they lie. No condition beyond those that each theorem states.
-/
set_option linter.unusedVariables false
set_option linter.unusedSimpArgs false
namespace Go.Proofs.YtpniggmdokkkcaaGreatDoor
open Go.RowKit

theorem own_open {w : World} {B T sz : Nat} {v : Value} {n : Nat} {xs : List Value} (h : w.ownsRow B T sz v n xs) :
    ∃ a cap, v = .slice a n cap ∧ n ≤ cap ∧ cap ≤ maxLen ∧ (0 < n → ∃ g, a = some ⟨g, 0, none⟩ ∧ B ≤ g ∧ g < w.heap.size ∧ (∀ j, j < n * sz → w.cell? ⟨g, j, none⟩ = xs[j]?) ∧ (∀ j, w.frozen? ⟨g, j, none⟩ = false)) := by
  have hh := h
  obtain ⟨hl, h⟩ := h
  rcases h with ⟨rfl, rfl⟩ | ⟨g, cap, cur, rfl, hb, hg, hnc, hcm, hcs, ht⟩
  · exact ⟨none, 0, rfl, Nat.le_refl _, by unfold maxLen; omega, by omega⟩
  · refine ⟨_, cap, rfl, hnc, hcm, fun hn => ?_⟩
    obtain ⟨g', cap', e, h1, h2, h3, h4, h5⟩ := own_cases hh hn
    simp only [Value.slice.injEq, Option.some.injEq, Addr.mk.injEq, and_true, true_and] at e
    obtain ⟨rfl, rfl⟩ := e
    exact ⟨g, rfl, h1, h2, h4, h5⟩
theorem own_ge {w : World} {B T sz : Nat} {v : Value} {n : Nat} {xs : List Value} (h : w.ownsRow B T sz v n xs) : ∀ g, v.ownBlock = some g → B ≤ g ∧ g < w.heap.size := by
  intro g hg
  rcases h.2 with he | ⟨g', cap, cur, he, hb, hg', _⟩
  · rw [he.1] at hg; cases hg
  · rw [he] at hg
    simp only [Value.ownBlock, Option.some.injEq] at hg
    subst hg
    exact ⟨hb, Blk.lt hg'⟩
theorem own_open2 {w : World} {B T sz : Nat} {v : Value} {n : Nat} {xs : List Value} (h : w.ownsRow B T sz v n xs) :
    ∃ a cap, v = .slice a n cap ∧ n ≤ cap ∧ cap ≤ maxLen ∧ (a = none ∧ cap = 0 ∨ ∃ g, a = some ⟨g, 0, none⟩) := by
  rcases h.2 with ⟨rfl, rfl⟩ | ⟨g, cap, cur, rfl, hb, hg, hnc, hcm, hcs, ht⟩
  · exact ⟨none, 0, rfl, Nat.le_refl _, by unfold maxLen; omega, .inl ⟨rfl, rfl⟩⟩
  · exact ⟨_, cap, rfl, hnc, hcm, .inr ⟨g, rfl⟩⟩
theorem own_ne_any {w : World} {B T sz k T' : Nat} {c : Array Value} {v : Value} {n : Nat} {xs : List Value} (h : w.ownsRow B T sz v n xs) (hb : Blk w k c T') (hT : T ≠ T') : ∀ g, v.ownBlock = some g → g ≠ k := by
  intro g hg
  obtain ⟨a, cap, rfl, -⟩ := own_open h
  cases a with
  | none => cases hg
  | some ad =>
    rcases h.2 with ⟨he, _⟩ | ⟨g', cap', cur, he, hbb, hgg, _⟩
    · cases he
    · rw [he] at hg
      simp only [Value.ownBlock, Option.some.injEq] at hg
      subst hg
      rintro rfl
      rw [Blk, hgg] at hb
      simp only [Option.some.injEq, Obj.cells.injEq] at hb
      exact hT hb.2.1
theorem own_own {w : World} {B T sz B' T' sz' : Nat} {v v' : Value} {n n' : Nat} {xs xs' : List Value} (h : w.ownsRow B T sz v n xs) (h' : w.ownsRow B' T' sz' v' n' xs') (hT : T ≠ T') : ∀ g, v.ownBlock = some g → v'.ownBlock ≠ some g := by
  intro g hg hg'
  rcases h'.2 with ⟨rfl, _⟩ | ⟨g', cap, cur, rfl, hB, hb, _⟩
  · simp [Value.ownBlock] at hg'
  · have : g' = g := by simpa [Value.ownBlock] using hg'
    subst this
    exact own_ne_any h hb hT g' hg rfl
end Go.Proofs.YtpniggmdokkkcaaGreatDoor

/-
  Texts as lists of bytes; lists of texts in memory. No condition beyond those that each theorem states.
-/
set_option linter.unusedVariables false
set_option linter.unusedSimpArgs false
set_option maxRecDepth 100000
namespace Go.Proofs.YtpniggmdokkkcaaGreatDoor
open Go.RowKit

def txt (l : List UInt8) : ByteArray := ⟨l.toArray⟩
@[simp] theorem txt_size (l : List UInt8) : (txt l).size = l.length := by simp [txt, ByteArray.size]
theorem txt_append (a b : List UInt8) : txt a ++ txt b = txt (a ++ b) := by
  apply ByteArray.ext; simp [txt, ByteArray.data_append]
theorem txt_data (s : ByteArray) : txt s.data.toList = s := by apply ByteArray.ext; simp [txt]
theorem txt_list (l : List UInt8) : (txt l).toList = l := by rw [ByteArray.toList_eq]; simp [txt]
theorem txt_inj {a b : List UInt8} (h : txt a = txt b) : a = b := by rw [← txt_list a, h, txt_list]
theorem txt_head (l : List UInt8) (n : Nat) (h : n ≤ l.length) : (txt l).extract 0 n = txt (l.take n) := by
  apply ByteArray.ext
  simp [txt, ByteArray.data_extract]
theorem txt_tail (l : List UInt8) (n : Nat) : (txt l).extract n l.length = txt (l.drop n) := by
  apply ByteArray.ext
  simp [txt, ByteArray.data_extract]
  rw [List.take_of_length_le (by simp)]
theorem txt_at (l : List UInt8) (j : Nat) (h : j < l.length) (h' : j < (txt l).size) : (txt l)[j]'h' = l[j] := by
  show (txt l).data[j]'_ = _
  first | (simp [txt]; done) | (simp [txt]; rfl)
theorem add_txt' (a b : List UInt8) (h : a.length + b.length ≤ 4611686018427387904) : ∀ W : World, (Op.stringOp .add (txt a) (txt b)).run Tryz.prog W = .ok (.string (txt (a ++ b))) W := fun W => by
  rw [run_string_add_sum _ _ _ (by simp; omega), txt_append]
theorem Tryz.infoStr : (Tryz.prog.info? 9).map (fun i => (i.zero, i.size, i.bytes)) = some (some (.string ⟨#[]⟩), 1, 16) := by kernel_rfl
def strVals (l : List (List UInt8)) : List Value := l.map fun t => .string (txt t)
/-- A list of texts in a row of its own. -/
abbrev StrRow (B : Nat) (w : World) (v : Value) (l : List (List UInt8)) : Prop := w.ownsRow B 9 1 v l.length (strVals l)
/-- One text appended. -/
theorem strAppend {ops : Array Oper} {rest : List Oper} {o : Oper} {a : Act} {w : World} {Q : Exit → Act → World → Prop} (hgd : o.guard = none) (s x : Operand)
    (ho : o.op = .call { callee := .builtin .append, args := #[s, x], argTypes := #[33, 33] })
    (B : Nat) (v : Value) (l : List (List UInt8)) (e : List UInt8) (hs : a.eval s = v) (hown : StrRow B w v l) (k : Nat) (hx : a.eval x = .slice (some ⟨k, 0, none⟩) 1 1) (hb : Blk w k #[.string (txt e)] 9)
    (hl : l.length ≤ 1000000) (hB : B ≤ w.heap.size)
    (h : ∀ v' w', StrRow B w' v' (l ++ [e]) → Upd v.ownBlock.toList w w' → (v'.ownBlock = v.ownBlock ∨ v'.ownBlock = some w.heap.size) → wpList Tryz.prog ops Q rest (a.put o.dst v') w') : wpList Tryz.prog ops Q (o :: rest) a w := by
  obtain ⟨i0, hinf, hz0, hz1, hz2⟩ := info_parts Tryz.infoStr
  refine wpList_append_own_at w hgd s x 33 ho B 9 i0 _ 1 16 Tryz.underlying33 hinf hz0 hz1 hz2 rfl (by decide) v l.length (strVals l) hs hown ⟨k, 0, none⟩ 1 1 [.string (txt e)] hx rfl (fun j u hj => by rw [Addr.add_lit, Nat.zero_add, Blk.cell hb j]; simpa using hj)
    (by intro u hu; simp only [List.mem_cons, List.not_mem_nil, or_false] at hu; rcases hu with rfl; rfl) (by unfold maxLen; omega) (by omega) hB ?_
  intro v' w' hown' hgr _ hat
  refine h v' w' ?_ (Upd.of_grown hgr) hat
  unfold StrRow
  rw [List.length_append]
  have e3 : strVals (l ++ [e]) = strVals l ++ [.string (txt e)] := by simp [strVals]
  rw [e3]
  simpa using hown'

/-- A slice of texts. -/
def TxsAt (w : World) (v : Value) (l : List (List UInt8)) : Prop :=
  ∃ (a : Option Addr) (c : Nat), v = .slice a l.length c ∧ l.length ≤ c ∧ c ≤ 9223372036854775807 ∧ (0 < l.length → ∃ k o, a = some ⟨k, o, none⟩ ∧ k < w.heap.size ∧ ∀ i (h : i < l.length), w.cell? ⟨k, o + i, none⟩ = some (.string (txt l[i])))
theorem TxsAt.upd {w w' : World} {v : Value} {l : List (List UInt8)} (h : TxsAt w v l) (hu : Upd [] w w') : TxsAt w' v l := by
  obtain ⟨a, c, h1, h2, h3, h4⟩ := h
  refine ⟨a, c, h1, h2, h3, fun h0 => ?_⟩
  obtain ⟨k, o, e, hk, hc⟩ := h4 h0
  exact ⟨k, o, e, Nat.lt_of_lt_of_le hk hu.size, fun i hi => by rw [← hc i hi]; exact World.cell?_of_block (hu.block k hk (by simp))⟩
theorem row_strs {B : Nat} {w : World} {v : Value} {l : List (List UInt8)} (h : StrRow B w v l) : TxsAt w v l := by
  obtain ⟨a, cap, rfl, h1, h2, h3⟩ := own_open h
  refine ⟨a, cap, rfl, h1, by unfold maxLen at h2; omega, fun h0 => ?_⟩
  obtain ⟨g, rfl, hg, hgl, hc, -⟩ := h3 h0
  refine ⟨g, 0, rfl, hgl, fun i hi => ?_⟩
  rw [Nat.zero_add, hc i (by omega)]
  simp [strVals, hi]
/-- A block of texts, as a list of texts. -/
theorem blk_strs {w : World} {k : Nat} {l : List (List UInt8)} {c : Array Value} {T : TypeId} (h : Blk w k c T) (hc : c = (strVals l).toArray) (hl : l.length ≤ 9223372036854775807) : TxsAt w (.slice (some ⟨k, 0, none⟩) l.length l.length) l := by
  subst hc
  refine ⟨_, _, rfl, Nat.le_refl _, hl, fun h0 => ⟨k, 0, rfl, h.lt, fun i hi => ?_⟩⟩
  rw [Nat.zero_add, h.cell i]
  simp [strVals, hi]
theorem TxsAt.take {w : World} {a : Option Addr} {n c : Nat} {l : List (List UInt8)} (h : TxsAt w (.slice a n c) l) (m : Nat) (hm : m ≤ l.length) : TxsAt w (.slice a m c) (l.take m) := by
  obtain ⟨a', c', h1, h2, h3, h4⟩ := h
  simp only [Value.slice.injEq] at h1
  obtain ⟨rfl, rfl, rfl⟩ := h1
  have hl : (l.take m).length = m := by rw [List.length_take]; omega
  refine ⟨a, c, by rw [hl], by omega, h3, fun h0 => ?_⟩
  obtain ⟨k, o, e, hk, hc⟩ := h4 (by omega)
  exact ⟨k, o, e, hk, fun i hi => by rw [hc i (by omega)]; simp⟩
theorem blk_ne {w : World} {a b : Nat} {c c' : Array Value} {T T' : TypeId} (h : Blk w a c T) (h' : Blk w b c' T') (hT : T ≠ T') : a ≠ b := by
  rintro rfl
  rw [Blk, h'] at h
  simp only [Option.some.injEq, Obj.cells.injEq] at h
  exact hT h.2.1.symm
end Go.Proofs.YtpniggmdokkkcaaGreatDoor

/-
  Paths as lists of parts: the document's answers, in plain Lean; no program in sight.
-/
set_option linter.unusedVariables false
set_option linter.unusedSimpArgs false
namespace Go.Proofs.YtpniggmdokkkcaaGreatDoor

/-- May a byte stand in a part? -/
def goodN (n : Nat) : Bool := decide (97 ≤ n ∧ n ≤ 122 ∨ 48 ≤ n ∧ n ≤ 57 ∨ n = 45 ∨ n = 95)
def partL (s : List UInt8) : Bool := s.all (fun c => goodN c.toNat) && (decide (s ≠ []) && decide (s.length ≤ 16))
/-- The text of parts. -/
def textL : List (List UInt8) → List UInt8
  | [] => []
  | x :: r => 47 :: x ++ textL r
def madeL (l : List (List UInt8)) : Bool := l.all partL && decide (l.length ≤ 6)
/-- A text parted at each slash. -/
def splitL : List UInt8 → List (List UInt8)
  | [] => [[]]
  | c :: r => if c = 47 then [] :: splitL r else match splitL r with
    | [] => [[c]]
    | h :: t => (c :: h) :: t
/-- The parts of a text. -/
def parse5 (s : List UInt8) : Option (List (List UInt8)) :=
  if s = [47] then some [] else match s with
  | [] => none
  | c :: r => if c = 47 ∧ madeL (splitL r) = true then some (splitL r) else none

theorem splitL_cons (c : UInt8) (r : List UInt8) : splitL (c :: r) = if c = 47 then [] :: splitL r else match splitL r with
    | [] => [[c]]
    | h :: t => (c :: h) :: t := rfl
theorem splitL_ne (l : List UInt8) : splitL l ≠ [] := by
  cases l with
  | nil => simp [splitL]
  | cons c r =>
    unfold splitL
    split
    · simp
    · split <;> simp
theorem splitL_none {l : List UInt8} (h : (47 : UInt8) ∉ l) : splitL l = [l] := by
  induction l with
  | nil => rfl
  | cons c r ih =>
    simp only [List.mem_cons, not_or] at h
    unfold splitL
    rw [if_neg (fun e => h.1 e.symm), ih h.2]
theorem splitL_cut {a r : List UInt8} (h : (47 : UInt8) ∉ a) : splitL (a ++ 47 :: r) = a :: splitL r := by
  induction a with
  | nil => simp [splitL]
  | cons c a ih =>
    simp only [List.mem_cons, not_or] at h
    rw [List.cons_append, splitL_cons, if_neg (fun e => h.1 e.symm), ih h.2]
theorem text_split (r : List UInt8) : textL (splitL r) = 47 :: r := by
  induction r with
  | nil => rfl
  | cons c r ih =>
    unfold splitL
    split
    · rename_i h
      subst h
      show 47 :: [] ++ textL (splitL r) = _
      rw [ih]; rfl
    · generalize hs : splitL r = q at *
      cases q with
      | nil => exact absurd hs (splitL_ne r)
      | cons x t =>
        simp only [textL, List.cons_append, List.cons.injEq, true_and] at ih ⊢
        exact ih
/-- The first slash. -/
theorem first_cut (l : List UInt8) : (47 : UInt8) ∉ l ∨ ∃ a r, l = a ++ 47 :: r ∧ (47 : UInt8) ∉ a := by
  induction l with
  | nil => exact .inl (by simp)
  | cons c l ih =>
    by_cases hc : c = 47
    · subst hc
      exact .inr ⟨[], l, rfl, by simp⟩
    · rcases ih with h | ⟨a, r, rfl, ha⟩
      · exact .inl (by simp only [List.mem_cons, not_or]; exact ⟨fun e => hc e.symm, h⟩)
      · exact .inr ⟨c :: a, r, rfl, by simp only [List.mem_cons, not_or]; exact ⟨fun e => hc e.symm, ha⟩⟩
theorem index_none {l : List UInt8} (h : (47 : UInt8) ∉ l) : Lib.indexByte l 47 = -1 := by
  induction l with
  | nil => rfl
  | cons c l ih =>
    simp only [List.mem_cons, not_or] at h
    unfold Lib.indexByte
    rw [if_neg (by simpa using fun e => h.1 e.symm), ih h.2]
    rfl
theorem drop_cut (a r : List UInt8) : (a ++ 47 :: r).drop (a.length + 1) = r := by
  rw [show a ++ 47 :: r = (a ++ [47]) ++ r by simp, List.drop_left' (by simp)]
theorem index_cut {a r : List UInt8} (h : (47 : UInt8) ∉ a) : Lib.indexByte (a ++ 47 :: r) 47 = a.length := by
  induction a with
  | nil => simp [Lib.indexByte]
  | cons c a ih =>
    simp only [List.mem_cons, not_or] at h
    rw [List.cons_append]
    unfold Lib.indexByte
    rw [if_neg (by simpa using fun e => h.1 e.symm), ih h.2, if_neg (by simp)]
    simp
theorem txt_cut0 (a r : List UInt8) : (txt (a ++ r)).extract 0 a.length = txt a := by rw [txt_head _ _ (by simp), List.take_left]
theorem splitB_txt : ∀ (k : Nat) (l : List UInt8), l.count 47 = k → Lib.splitB ⟨#[47]⟩ 0 k (txt l) = (splitL l).map txt := by
  intro k
  induction k with
  | zero =>
    intro l hl
    have hn : (47 : UInt8) ∉ l := fun hm => by have := List.count_pos_iff.2 hm; omega
    rw [splitL_none hn]
    rfl
  | succ k ih =>
    intro l hl
    rcases first_cut l with hn | ⟨a, r, rfl, ha⟩
    · rw [List.count_eq_zero.2 hn] at hl
      omega
    · have hi : Lib.indexB (txt (a ++ 47 :: r)) ⟨#[47]⟩ = (a.length : Int) := by
        show Lib.index (a ++ 47 :: r) [47] = _
        rw [Lib.index_one, index_cut ha]
      have hk : r.count 47 = k := by
        rw [List.count_append, List.count_eq_zero.2 ha, List.count_cons_self] at hl
        omega
      unfold Lib.splitB
      rw [hi, if_neg (by simp), splitL_cut ha, List.map_cons, ← ih r hk]
      congr 1
      · simpa using txt_cut0 a (47 :: r)
      · congr 1
        have h1 : (txt (a ++ 47 :: r)).size = (a ++ 47 :: r).length := txt_size _
        rw [h1]
        show (txt (a ++ 47 :: r)).extract (a.length + 1) (a ++ 47 :: r).length = _
        rw [txt_tail]
        rw [drop_cut]
theorem splitL_length (l : List UInt8) : (splitL l).length = l.count 47 + 1 := by
  induction l with
  | nil => rfl
  | cons c r ih =>
    unfold splitL
    split
    · rename_i h
      subst h
      rw [List.length_cons, ih, List.count_cons_self]
    · rename_i h
      rw [List.count_cons_of_ne h]
      generalize hs : splitL r = q at *
      cases q with
      | nil => exact absurd hs (splitL_ne r)
      | cons x t => simpa using ih
theorem countB_txt (l : List UInt8) : Lib.countB (txt l) ⟨#[47]⟩ = l.count 47 := Lib.count_one 47 l
end Go.Proofs.YtpniggmdokkkcaaGreatDoor
