/-
  Small general words for this seat's walks: later worlds, blocks known whole, a region that draws its order and whose callees make memory. No condition beyond those that each theorem states.
-/
import Derived.WalkKit
import Derived.WalkSpells
import Derived.WalkLawsBesides
import Derived.Deep.QuietTactic
import Derived.BigQuiet
import Derived.Outline
import Derived.Lib.Hide
import Derived.OwnWalk
import Derived.Lib.ConvBytes
import Derived.Laws.BytesArg
import Derived.Laws.BitsAllLaws
import Derived.Test.YtjaoiaknglnomaaRows
import Derived.Deep.AppendLies
import Derived.Deep.RegionLaw
import Derived.Deep.DrawnRows
namespace Go.Proofs.Ytjaoiaknglnomaa
open Go.RowKit

/-- A fact that the walk does not look into. -/
structure Hd (p : Prop) : Prop where
  out : p
theorem hd {p : Prop} (h : p) : Hd p := ⟨h⟩

/-- w' is a later world than w: of the blocks that were there only those of L may have turned. -/
structure Upd (L : List Nat) (w w' : World) : Prop where
  os : w'.os = w.os
  tape : w'.tape = w.tape
  output : w'.output = w.output
  size : w.heap.size ≤ w'.heap.size
  block : ∀ k, k < w.heap.size → k ∉ L → w'.heap[k]? = w.heap[k]?

theorem Upd.refl (L : List Nat) (w : World) : Upd L w w := ⟨rfl, rfl, rfl, Nat.le_refl _, fun _ _ _ => rfl⟩
theorem Upd.trans {L : List Nat} {a b c : World} (h : Upd L a b) (k : Upd L b c) : Upd L a c :=
  ⟨k.os.trans h.os, k.tape.trans h.tape, k.output.trans h.output, Nat.le_trans h.size k.size, fun i hi hn => (k.block i (Nat.lt_of_lt_of_le hi h.size) hn).trans (h.block i hi hn)⟩
/-- The second step may turn new blocks, and those of the first's list. -/
theorem Upd.trans' {L M : List Nat} {a b c : World} (h : Upd L a b) (k : Upd M b c) (hM : ∀ i ∈ M, i ∈ L ∨ a.heap.size ≤ i) : Upd L a c :=
  ⟨k.os.trans h.os, k.tape.trans h.tape, k.output.trans h.output, Nat.le_trans h.size k.size, fun i hi hn =>
    (k.block i (Nat.lt_of_lt_of_le hi h.size) (fun hm => (hM i hm).elim hn (fun h1 => by omega))).trans (h.block i hi hn)⟩
theorem Upd.mono {L M : List Nat} {w w' : World} (h : Upd L w w') (hM : ∀ i ∈ L, i ∈ M ∨ w.heap.size ≤ i) : Upd M w w' := (Upd.refl M w).trans' h hM
theorem Upd.drew {L : List Nat} {a w : World} (h : Upd L a w) : Upd L a w.drew := ⟨h.os, h.tape, h.output, h.size, h.block⟩
theorem Upd.alloc {L : List Nat} {a w : World} (h : Upd L a w) (o : Obj) : Upd L a (w.alloc o) :=
  h.trans ⟨rfl, rfl, rfl, by simp, fun k hk _ => Below.heap_alloc _ _ _ hk⟩
theorem Upd.setCell {L : List Nat} {a w : World} (h : Upd L a w) {p : Addr} (hp : p.block ∈ L ∨ a.heap.size ≤ p.block) (u : Value) : Upd L a (w.setCell p u) :=
  ⟨h.os, h.tape, h.output, by have := h.size; simpa [World.setCell] using this, fun k hk hn => by
    rw [Below.heap_setCell _ _ _ _ (fun e => by subst e; exact hp.elim hn (fun h1 => by omega))]; exact h.block k hk hn⟩
theorem Upd.below {L : List Nat} {w w' : World} {B : Nat} (h : Upd L w w') (hB : B ≤ w.heap.size) (hL : ∀ i ∈ L, B ≤ i) : Below B w w' :=
  ⟨h.os, h.tape, h.output, h.size, fun k hk => h.block k (by omega) (fun hm => by have := hL k hm; omega)⟩
theorem Upd.of_below {w w' : World} (h : Below w.heap.size w w') (L : List Nat) : Upd L w w' := ⟨h.os, h.tape, h.output, h.size, fun k hk _ => h.block k hk⟩

/-- A block known whole, of cells that may be written. -/
abbrev Blk (w : World) (k : Nat) (c : Array Value) (T : TypeId) : Prop := w.heap[k]? = some (.cells c T)

theorem Blk.cell {w : World} {k : Nat} {c : Array Value} {T : TypeId} (h : Blk w k c T) (o : Nat) : w.cell? ⟨k, o, none⟩ = c[o]? := by
  simp only [World.cell?]; rw [h]; rfl
theorem Blk.frozen {w : World} {k : Nat} {c : Array Value} {T : TypeId} (h : Blk w k c T) (o : Nat) : w.frozen? ⟨k, o, none⟩ = false := by
  simp only [World.frozen?]; rw [h]; simp
theorem Blk.lt {w : World} {k : Nat} {c : Array Value} {T : TypeId} (h : Blk w k c T) : k < w.heap.size := by
  rcases Nat.lt_or_ge k w.heap.size with h1 | h1
  · exact h1
  · rw [Blk, Array.getElem?_eq_none h1] at h; cases h
theorem Blk.upd {L : List Nat} {w w' : World} {k : Nat} {c : Array Value} {T : TypeId} (h : Blk w k c T) (hu : Upd L w w') (hk : k ∉ L) : Blk w' k c T :=
  (hu.block k h.lt hk).trans h
theorem Blk.alloc {w : World} {k : Nat} {c : Array Value} {T : TypeId} (h : Blk w k c T) (o : Obj) : Blk (w.alloc o) k c T :=
  (Below.heap_alloc _ _ _ h.lt).trans h
theorem Blk.new (w : World) (c : Array Value) (T : TypeId) : Blk (w.alloc (.cells c T)) w.heap.size c T := by
  show (w.heap.push _)[w.heap.size]? = _
  simp
theorem Blk.new' (w : World) {k : Nat} (c : Array Value) (T : TypeId) (hk : k = w.heap.size) : Blk (w.alloc (.cells c T)) k c T := by subst hk; exact Blk.new w c T
theorem Blk.drew {w : World} {k : Nat} {c : Array Value} {T : TypeId} (h : Blk w k c T) : Blk w.drew k c T := h
theorem Blk.set {w : World} {k : Nat} {c : Array Value} {T : TypeId} (h : Blk w k c T) (o : Nat) (v : Value) : Blk (w.setCell ⟨k, o, none⟩ v) k (c.setIfInBounds o v) T := by
  simp only [Blk, World.setCell, Array.getElem?_modify] at *
  simp [h]
theorem Blk.set_other {w : World} {k : Nat} {c : Array Value} {T : TypeId} (h : Blk w k c T) {p : Addr} (hp : k ≠ p.block) (v : Value) : Blk (w.setCell p v) k c T :=
  (Below.heap_setCell _ _ _ _ hp).trans h

/-- A later world, as one thing. -/
structure Later (L : List Nat) (w : World) where
  world : World
  upd : Upd L w world

instance later_some (L : List Nat) (w : World) : Nonempty (Later L w) := ⟨⟨w, Upd.refl L w⟩⟩

theorem Later.blk {L : List Nat} {w : World} (x : Later L w) {k : Nat} {c : Array Value} {T : TypeId} (h : Blk w k c T) (hk : k ∉ L) : Blk x.world k c T := h.upd x.upd hk

/-- A REGION THAT DRAWS ITS ORDER, whose operations only read and whose callees hand back one value each and turn at most the blocks of L: one walk of the text's order. -/
theorem wp_region_later {P : Program} {id : Nat} {Q : Exit → Act → World → Prop} {a : Act} {w : World} {l : List Oper} (L : List Nat) (hm : P.follows .mixedOrders = true) (hB : Region.lexB .any l.toArray = true)
    (h : wpQuiet P l.toArray (fun w' => ∃ x : Later L w, w' = x.world) (fun a' => ∀ w', Upd L w w' → Q .normal a' w') l a) : (Code.region id l.toArray true).wp P Q a w := by
  refine wp_region_quiet (C := fun w' => ∃ x : Later L w, w' = x.world) hm hB ⟨⟨_, (Upd.refl L w).drew⟩, rfl⟩ ?_
  have e : (fun a' => ∀ w', (∃ x : Later L w, w' = x.world) → Q .normal a' w') = (fun a' => ∀ w', Upd L w w' → Q .normal a' w') := by
    funext a'; apply propext; exact ⟨fun h w' hu => h _ ⟨⟨w', hu⟩, rfl⟩, fun h w' ⟨x, e⟩ => e ▸ h _ x.upd⟩
  rw [e]; simpa using h

/-- A call in such a region: a contract for every later world. -/
theorem later_call {P : Program} {f : FuncId} {args : Array Value} {L : List Nat} {w : World} {v : Value} {x : Later L w}
    (h : Calls P f args x.world fun e w' => e = .returned v ∧ Upd L x.world w') : Calls P f args x.world fun e w'' => e = .returned v ∧ ∃ y : Later L w, w'' = y.world :=
  h.mono fun _ w' ⟨he, hu⟩ => ⟨he, ⟨w', x.upd.trans hu⟩, rfl⟩

/-- A slice of whole numbers; its cells do not lie in block b. -/
def IntsAt (b : Nat) (w : World) (v : Value) (cs : List Int) : Prop :=
  ∃ (a : Option Addr) (c : Nat), v = .slice a cs.length c ∧ cs.length ≤ c ∧ c ≤ 9223372036854775807 ∧ (cs ≠ [] → ∃ k o, a = some ⟨k, o, none⟩ ∧ k ≠ b ∧ k < w.heap.size ∧ ∀ i (_ : i < cs.length), w.cell? ⟨k, o + i, none⟩ = some (.int .i64 (cs.getD i 0)))

theorem IntsAt.upd {b : Nat} {L : List Nat} {w w' : World} {v : Value} {cs : List Int} (h : IntsAt b w v cs) (hu : Upd L w w') (hL : ∀ i ∈ L, i = b) : IntsAt b w' v cs := by
  obtain ⟨a, c, h1, h2, h3, h4⟩ := h
  refine ⟨a, c, h1, h2, h3, fun hn => ?_⟩
  obtain ⟨k, o, e, hk, hl, hc⟩ := h4 hn
  refine ⟨k, o, e, hk, Nat.lt_of_lt_of_le hl hu.size, fun i hi => ?_⟩
  rw [← hc i hi]
  exact World.cell?_of_block (hu.block k hl (fun hm => hk (hL k hm)))

end Go.Proofs.Ytjaoiaknglnomaa

/-
  Laws of the walk at single operations whose new world is left a variable: a string turned into bytes, and back. No condition beyond those that each theorem states.
-/
set_option linter.unusedVariables false
namespace Go.Proofs.Ytjaoiaknglnomaa
open Go.RowKit

/-- One operation that yields a value: what is known of it and of the world behind it is all that is handed on. -/
theorem wpList_run {P : Program} {ops : Array Oper} {rest : List Oper} {o : Oper} {a : Act} {w : World} {Q : Exit → Act → World → Prop} (hg : o.guard = none) (R : Value → World → Prop)
    (hrun : ∃ v w', (execOp a.eval o).run P w = .ok (.value v) w' ∧ R v w') (h : ∀ v w', R v w' → wpList P ops Q rest (a.put o.dst v) w') : wpList P ops Q (o :: rest) a w := by
  refine wpList_plain hg fun K hK => ?_
  obtain ⟨v, w', hr, hR⟩ := hrun
  unfold Oper.wp
  rw [hr]
  exact hK _ _ (h v w' hR)

/-- Bytes in a row of memory, from place o on. -/
def BytesAt (w : World) (k o : Nat) (s : ByteArray) : Prop := ∀ i, i < s.size → w.cell? ⟨k, o + i, none⟩ = some (.int .u8 ((s.data.toList.getD i 0).toNat : Int))

theorem wpList_conv_bytes {P : Program} {ops : Array Oper} {rest : List Oper} {o : Oper} {a : Act} {w : World} {Q : Exit → Act → World → Prop} (hg : o.guard = none) (src dst e : TypeId) (x : Operand) (ho : o.op = .convert src dst x)
    (s : ByteArray) (hx : a.eval x = .string s) {u : TypeDesc} (hs : P.underlying src = some u) (hd : P.underlying dst = some (.slice e)) (he : P.underlying e = some (.int .u8))
    (h : ∀ k c w', w.heap.size ≤ k → k < w'.heap.size → s.size ≤ c → Upd [] w w' → BytesAt w' k 0 s → (∀ i, i < s.size → w'.frozen? ⟨k, i, none⟩ = false) → wpList P ops Q rest (a.put o.dst (.slice (some ⟨k, 0, none⟩) s.size c)) w') :
    wpList P ops Q (o :: rest) a w := by
  refine wpList_run hg (fun v w' => v = .slice (some ⟨w.heap.size, 0, none⟩) s.size (grownCap w s.size 0 e) ∧ w' = Lib.bytesWorld w e s) ⟨_, _, ?_, rfl, rfl⟩ ?_
  · unfold execOp
    simp only [ho, hx, Sem.run_bind, Lib.run_convert_string_bytes w src dst e s hs hd he, Result.andThen_ok, Sem.run_pure]
  · rintro _ _ ⟨rfl, rfl⟩
    refine h w.heap.size _ _ (Nat.le_refl _) (by rw [Lib.bytesWorld_size]; omega) (grownCap_ge _ _ _ _) ⟨?_, ?_, ?_, by rw [Lib.bytesWorld_size]; omega, fun k hk _ => Lib.bytesWorld_at_old w e s k hk⟩ (fun i hi => by rw [Nat.zero_add]; exact Lib.bytesWorld_cell w e s i hi) (fun i hi => ?_)
    · rfl
    · rfl
    · rfl
    · simp only [World.frozen?, Lib.bytesWorld_at_new]
      have : (Lib.bytesCells w e s).size ≥ s.size := by simp [Lib.bytesCells]
      simp; omega

theorem wpList_conv_string {P : Program} {ops : Array Oper} {rest : List Oper} {o : Oper} {a : Act} {w : World} {Q : Exit → Act → World → Prop} (hg : o.guard = none) (src dst e : TypeId) (x : Operand) (ho : o.op = .convert src dst x)
    (k of n c : Nat) (s : ByteArray) (hx : a.eval x = .slice (some ⟨k, of, none⟩) n c) (hs : P.underlying src = some (.slice e)) (he : P.underlying e = some (.int .u8)) (hd : P.underlying dst = some .string)
    (hn : s.size = n) (hb : BytesAt w k of s) (h : wpList P ops Q rest (a.put o.dst (.string s)) w) : wpList P ops Q (o :: rest) a w := by
  have hr := run_convert_bytes_arg (P := P) w src e hs he k of n c (s.data.toList.map fun b => (b.toNat : Int)) (by simpa using hn) (fun i hi => by
    have hi' : i < s.data.size := by have : s.data.size = n := hn; omega
    rw [hb i (by omega)]
    have h1 : s.data[i]? = some s.data[i] := Array.getElem?_eq_getElem hi'
    simp [List.getD, h1]) dst hd
  have e1 : strOfNums (s.data.toList.map fun b => (b.toNat : Int)) = s := by
    simp only [strOfNums, List.map_map]
    apply ByteArray.ext
    simp [Function.comp_def]
  rw [e1] at hr
  refine wpList_run hg (fun v w' => v = .string s ∧ w' = w) ⟨_, _, ?_, rfl, rfl⟩ (by rintro _ _ ⟨rfl, rfl⟩; exact h)
  unfold execOp
  simp only [ho, hx, Sem.run_bind, hr, Result.andThen_ok, Sem.run_pure]

/-! ### Rows that the call owns -/

theorem Upd.of_grown {w w' : World} {row : Option Nat} (h : w.grownBy w' row) : Upd row.toList w w' :=
  ⟨h.os, h.tape, h.output, h.size, fun k hk hn => h.block k hk (fun e => by cases row with | none => cases e | some r => cases e; simp at hn)⟩

theorem own_cases {w : World} {B T sz : Nat} {v : Value} {n : Nat} {xs : List Value} (h : w.ownsRow B T sz v n xs) (hn : 0 < n) :
    ∃ g cap, v = .slice (some ⟨g, 0, none⟩) n cap ∧ B ≤ g ∧ g < w.heap.size ∧ n ≤ cap ∧ (∀ j, j < n * sz → w.cell? ⟨g, j, none⟩ = xs[j]?) ∧ (∀ j, w.frozen? ⟨g, j, none⟩ = false) := by
  obtain ⟨hl, h⟩ := h
  rcases h with ⟨_, rfl⟩ | ⟨g, cap, cur, rfl, hb, hg, hnc, hcm, hcs, ht⟩
  · omega
  · refine ⟨g, cap, rfl, hb, ?_, hnc, fun j hj => ?_, fun j => Blk.frozen hg j⟩
    · exact Blk.lt hg
    · rw [Blk.cell hg j, ← ht, List.getElem?_take, if_pos hj]; simp

theorem own_upd {w w' : World} {B T sz : Nat} {v : Value} {n : Nat} {xs : List Value} {L : List Nat} (h : w.ownsRow B T sz v n xs) (hu : Upd L w w') (hL : ∀ g, v.ownBlock = some g → g ∉ L) : w'.ownsRow B T sz v n xs := by
  refine ⟨h.1, ?_⟩
  rcases h.2 with hn | ⟨g, cap, cur, rfl, hb, hg, rest⟩
  · exact .inl hn
  · exact .inr ⟨g, cap, cur, rfl, hb, Blk.upd hg hu (hL g rfl), rest⟩

theorem own_mono {w : World} {B B' T sz : Nat} {v : Value} {n : Nat} {xs : List Value} (h : w.ownsRow B T sz v n xs) (hB : B' ≤ B) : w.ownsRow B' T sz v n xs := by
  refine ⟨h.1, ?_⟩
  rcases h.2 with hn | ⟨g, cap, cur, rfl, hb, rest⟩
  · exact .inl hn
  · exact .inr ⟨g, cap, cur, rfl, Nat.le_trans hB hb, rest⟩

theorem own_ne_blk {w : World} {B T sz k T' : Nat} {c : Array Value} {g cap n : Nat} {xs : List Value} (h : w.ownsRow B T sz (.slice (some ⟨g, 0, none⟩) n cap) n xs) (hb : Blk w k c T') (hT : T ≠ T') : g ≠ k := by
  rintro rfl
  obtain ⟨_, h⟩ := h
  rcases h with ⟨he, _⟩ | ⟨g', cap', cur, he, hb', hg, _⟩
  · cases he
  · simp only [Value.slice.injEq, Option.some.injEq, Addr.mk.injEq, and_true, true_and] at he
    obtain ⟨rfl, rfl⟩ := he
    rw [Blk, hg] at hb
    simp only [Option.some.injEq, Obj.cells.injEq] at hb
    exact hT hb.2.1

theorem own_set {w : World} {B T sz : Nat} {g n cap : Nat} {xs : List Value} (h : w.ownsRow B T sz (.slice (some ⟨g, 0, none⟩) n cap) n xs) (j : Nat) (hj : j < n * sz) (u : Value) : (w.setCell ⟨g, j, none⟩ u).ownsRow B T sz (.slice (some ⟨g, 0, none⟩) n cap) n (xs.set j u) := by
  obtain ⟨hl, h⟩ := h
  refine ⟨by simpa using hl, ?_⟩
  rcases h with ⟨he, _⟩ | ⟨g', cap', cur, he, hb, hg, hnc, hcm, hcs, ht⟩
  · cases he
  · simp only [Value.slice.injEq, Option.some.injEq, Addr.mk.injEq, and_true, true_and] at he
    obtain ⟨rfl, rfl⟩ := he
    exact .inr ⟨g, cap, cur.setIfInBounds j u, rfl, hb, Blk.set hg j u, hnc, hcm, by simpa using hcs, by rw [← ht]; simp [List.take_set]⟩

end Go.Proofs.Ytjaoiaknglnomaa

/-
  code.Writer: bytes gathered in a row that grows. Condition: the sizes that each theorem states.
-/
set_option linter.unusedVariables false
set_option linter.unusedSimpArgs false
set_option maxRecDepth 100000
namespace Go.Proofs.Ytjaoiaknglnomaa
open Go.RowKit

/-- Bytes as the cells of a row. -/
def u8s (l : List UInt8) : List Value := l.map fun b => .int .u8 (b.toNat : Int)
@[simp] theorem u8s_length (l : List UInt8) : (u8s l).length = l.length := by simp [u8s]
theorem u8s_append (a b : List UInt8) : u8s (a ++ b) = u8s a ++ u8s b := by simp [u8s]

/-- A writer at block k whose bytes are l; its row v lies at B or behind. -/
structure WrAt (B : Nat) (w : World) (k : Nat) (v : Value) (l : List UInt8) : Prop where
  blk : Blk w k #[v] 154
  own : w.ownsRow B 5 1 v l.length (u8s l)
theorem WrAt.ne {B : Nat} {w : World} {k : Nat} {v : Value} {l : List UInt8} (h : WrAt B w k v l) : some k ≠ v.ownBlock := by
  intro e
  rcases h.own.2 with he | ⟨g, cap, cur, he, hb, hg, _⟩
  · rw [he.1] at e; cases e
  · rw [he] at e
    simp only [Value.ownBlock, Option.some.injEq] at e
    subst e
    have := h.blk
    rw [Blk, hg] at this
    simp at this
theorem u8_info : ∃ i, Try.prog.info? 5 = some i ∧ i.zero = some (.int .u8 0) ∧ i.size = 1 ∧ i.bytes = 1 := by
  have h : (Try.prog.info? 5).map (fun i => (i.zero, i.size, i.bytes)) = some (some (.int .u8 0), 1, 1) := by kernel_rfl
  obtain ⟨i, hi, he⟩ := Option.map_eq_some_iff.1 h
  simp only [Prod.mk.injEq] at he
  exact ⟨i, hi, he.1, he.2.1, he.2.2⟩
/-- What a call to a writer turns: its block, its row; and new ones. -/
structure WrUp (k : Nat) (v v' : Value) (w w' : World) : Prop where
  upd : Upd (k :: v.ownBlock.toList) w w'
  row : ∀ g, v'.ownBlock = some g → v.ownBlock = some g ∨ w.heap.size ≤ g
theorem WrUp.refl (k : Nat) (v : Value) (w : World) : WrUp k v v w w := ⟨Upd.refl _ _, fun g h => .inl h⟩
theorem WrUp.trans {k : Nat} {u v v' : Value} {a b c : World} (h : WrUp k u v a b) (h' : WrUp k v v' b c) : WrUp k u v' a c := by
  refine ⟨h.upd.trans' h'.upd fun i hi => ?_, fun g hg => ?_⟩
  · rcases List.mem_cons.1 hi with rfl | hi
    · exact .inl (by simp)
    · have hv : v.ownBlock = some i := by simpa using hi
      rcases h.row i hv with h1 | h1
      · exact .inl (by simp [h1])
      · exact .inr h1
  · rcases h'.row g hg with h1 | h1
    · exact h.row g h1
    · exact .inr (Nat.le_trans h.upd.size h1)
/-- The bytes of a number, so many, the highest first. -/
def wideOf (x : Nat) : Nat → List UInt8
  | 0 => []
  | n + 1 => UInt8.ofNat (x / 256 ^ n) :: wideOf x n
theorem wideOf_length (x n : Nat) : (wideOf x n).length = n := by induction n with
  | zero => rfl
  | succ n ih => simp [wideOf, ih]

set_option maxHeartbeats 1000000 in
theorem wide_any (B k x n : Nat) (v : Value) (l : List UInt8) (w : World) (hw : WrAt B w k v l) (hx : x < 18446744073709551616) (hn : n ≤ 8) (hl : l.length ≤ 1099511627776) (hB : B ≤ w.heap.size) :
    Calls Try.prog 105 #[.pointer (some ⟨k, 0, none⟩), .int .u64 x, .int .i64 n] w fun e w' =>
      e = .returned (.tuple #[]) ∧ ∃ v', WrAt B w' k v' (l ++ wideOf x n) ∧ WrUp k v v' w w' := by
  have HINV := hd (show WrAt B w k v l ∧ WrUp k v v w w from ⟨hw, WrUp.refl _ _ _⟩)
  have hlt := hw.blk.lt
  clear hw
  go_enter Try.func105, Try.ntmps105
  go_wp2_with fail
  go_loopw [6] (fun i wr => ∃ (j : Nat) (v' : Value) (l' : List UInt8), j ≤ n ∧ i = .int .i64 ((j : Int) - 1) ∧ l' ++ wideOf x j = l ++ wideOf x n ∧ WrAt B wr k v' l' ∧ WrUp k v v' w wr) (fun i _ => (intOf i + 1).toNat)
  case atStart => exact ⟨n, v, l, Nat.le_refl _, rfl, rfl, HINV.out⟩
  case round =>
    clear HINV
    obtain ⟨j, v', l', hj, rfl, hl', hw', hu⟩ := hrel
    rcases Nat.eq_zero_or_pos j with rfl | hj0
    · go_wp2_with fail
      go_end0
      rw [show wideOf x 0 = [] from rfl, List.append_nil] at hl'
      exact ⟨rfl, v', hl' ▸ hw', hu⟩
    · obtain ⟨j, rfl⟩ : ∃ i, j = i + 1 := ⟨j - 1, by omega⟩
      have hj' : j ≤ 7 := by omega
      have hne := hw'.ne
      have hlen : l'.length + (j + 1) = l.length + n := by
        have := congrArg List.length hl'
        simpa [wideOf_length] using this
      have hcell : wr.cell? ⟨k, 0, none⟩ = some v' := hw'.blk.cell 0
      have hfz : wr.frozen? ⟨k, 0, none⟩ = false := hw'.blk.frozen 0
      have hlt' := hw'.blk.lt
      have hBw : B ≤ wr.heap.size := Nat.le_trans hB hu.upd.size
      obtain ⟨it, hi, hz0, hz1, hz2⟩ := u8_info
      rw [show (((j + 1 : Nat) : Int) - 1) = (j : Int) by omega]
      have hs0 : (0 : Int) ≤ 8 * (j : Int) := by omega
      have hs1 : 8 * (j : Int) < 64 := by omega
      have hs2 : IntKind.i64.wrap (8 * (j : Int)) = 8 * (j : Int) := by rw [IntKind.wrap_i64]; omega
      have hs3 : (x : Int) / 2 ^ (8 * (j : Int)).toNat = ((x / 256 ^ j : Nat) : Int) := by
        rw [show (8 * (j : Int)).toNat = 8 * j by omega, Int.pow_mul]; simp
      have hs4 : IntKind.u8.wrap ((x : Int) / 2 ^ (8 * (j : Int)).toNat) = ((UInt8.ofNat (x / 256 ^ j)).toNat : Int) := by rw [hs3, IntKind.wrap_u8]; simp
      clear hs3
      have HW := hd hw'
      have HU := hd hu
      clear hw' hu
      go_wp2_with fail
      go_region_law ((refine step_append_lies _ (by rfl) _ _ _ (by rfl) B 5 it _ 1 1 Try.underlying47 hi hz0 hz1 hz2 rfl (by omega) v' l'.length (u8s l') (by rfl) (own_upd (L := []) HW.out.own (((Upd.refl _ _).drew).alloc _) (fun _ _ => by simp)) ⟨wr.heap.size, 0, none⟩ 1 1 [_] (by rfl) (by rfl) (World.news_of_block (heap_alloc_new wr _)) (by intro u hu; simp at hu; subst hu; rfl) (by omega) (by simp [maxLen]; omega) (by omega) (by simp; omega) (wr.heap.size + 1) (by simp) ?_; intro g cap w1 hown hgrow hat hlt1; have hq := Blk.upd ((HW.out.blk.alloc _).drew) (Upd.of_grown hgrow) (by simpa using Ne.symm hne); have hqc := hq.cell 0; have hqf := hq.frozen 0; have hql := hq.lt; have HQ := hd hq; have HOWN := hd hown; have HGR := hd hgrow; have HAT := hd hat; clear hq hown hgrow hat))
      all_goals
        go_wp2_with fail
        go_roundw
        case rel =>
          have hgk : g ≠ k := by
            rcases HAT.out with h1 | h1
            · rintro rfl; exact hne h1.symm
            · omega
          have hv : (Value.int .u8 ((x : Int) / 256 ^ j % 256)) = .int .u8 ((UInt8.ofNat (x / 256 ^ j)).toNat : Int) := by
            congr 1
          refine ⟨j, .slice (some ⟨g, 0, none⟩) (l'.length + 1) cap, l' ++ [UInt8.ofNat (x / 256 ^ j)], by omega, by go_num, by rw [← hl']; simp [wideOf], ⟨HQ.out.set 0 _, ?_⟩, HU.out.trans ⟨?_, ?_⟩⟩
          · have h1 := own_upd (L := [k]) HOWN.out ((Upd.refl _ _).setCell (p := ⟨k, 0, none⟩) (by simp) (.slice (some ⟨g, 0, none⟩) (l'.length + 1) cap)) (by simpa [Value.ownBlock] using hgk)
            rw [hv] at h1
            simpa [u8s_append, u8s] using h1
          · exact ((((Upd.refl _ wr).alloc _).drew).trans ((Upd.of_grown HGR.out).mono (by simp; grind))).setCell (by simp) _
          · intro g' hg'
            simp only [Value.ownBlock, Option.some.injEq] at hg'
            subst hg'
            rcases HAT.out with h1 | h1
            · exact .inl h1
            · exact .inr (by omega)
        case measure => simp [intOf]
end Go.Proofs.Ytjaoiaknglnomaa

/-
  code.Writer, on: head, U. Condition: the sizes that each theorem states.
-/
set_option linter.unusedVariables false
set_option linter.unusedSimpArgs false
set_option maxRecDepth 100000
namespace Go.Proofs.Ytjaoiaknglnomaa
open Go.RowKit

theorem blk_ne {w : World} {a b : Nat} {c c' : Array Value} {T T' : TypeId} (h : Blk w a c T) (h' : Blk w b c' T') (hT : T ≠ T') : a ≠ b := by
  rintro rfl
  rw [Blk, h'] at h
  simp only [Option.some.injEq, Obj.cells.injEq] at h
  exact hT h.2.1.symm
theorem blk_ne_own {w : World} {B T sz k T' : Nat} {c : Array Value} {v : Value} {n : Nat} {xs : List Value} (hb : Blk w k c T') (h : w.ownsRow B T sz v n xs) (hT : T ≠ T') : some k ≠ v.ownBlock := by
  intro e
  rcases h.2 with he | ⟨g, cap, cur, he, _, hg, _⟩
  · rw [he.1] at e; cases e
  · rw [he] at e
    simp only [Value.ownBlock, Option.some.injEq] at e
    subst e
    rw [Blk, hg] at hb
    simp only [Option.some.injEq, Obj.cells.injEq] at hb
    exact hT hb.2.1
/-- A block that is neither the writer's nor its row's stays. -/
theorem WrUp.blk {k : Nat} {v v' : Value} {w w' : World} (h : WrUp k v v' w w') {b : Nat} {c : Array Value} {T : TypeId} (hb : Blk w b c T) (h1 : b ≠ k) (h2 : some b ≠ v.ownBlock) : Blk w' b c T :=
  hb.upd h.upd (by
    intro hm
    rcases List.mem_cons.1 hm with h3 | h3
    · exact h1 h3
    · exact h2 (by simpa [eq_comm] using h3))

/-- Behind an append and the store of what it gave. -/
theorem wr_pushed {B k g cap m : Nat} {v : Value} {L bs : List UInt8} {w w0 w1 : World} (hw : WrAt B w k v L) (h0 : Upd [] w w0) (hm : m = L.length + bs.length)
    (hown : w1.ownsRow B 5 1 (.slice (some ⟨g, 0, none⟩) m cap) m (u8s L ++ u8s bs)) (hgrow : w0.grownBy w1 v.ownBlock) (hat : v.ownBlock = some g ∨ g = w0.heap.size) :
    WrAt B (w1.setCell ⟨k, 0, none⟩ (.slice (some ⟨g, 0, none⟩) m cap)) k (.slice (some ⟨g, 0, none⟩) m cap) (L ++ bs) ∧ WrUp k v (.slice (some ⟨g, 0, none⟩) m cap) w (w1.setCell ⟨k, 0, none⟩ (.slice (some ⟨g, 0, none⟩) m cap)) := by
  subst hm
  have hne := hw.ne
  have hlt := hw.blk.lt
  have hsz := h0.size
  have hgk : g ≠ k := by
    rcases hat with h1 | h1
    · rintro rfl; exact hne h1.symm
    · omega
  have hb1 : Blk w1 k #[v] 154 := Blk.upd (hw.blk.upd h0 (by simp)) (Upd.of_grown hgrow) (by simpa using Ne.symm hne)
  refine ⟨⟨hb1.set 0 _, ?_⟩, ⟨?_, ?_⟩⟩
  · have h1 := own_upd (L := [k]) hown ((Upd.refl _ _).setCell (p := ⟨k, 0, none⟩) (by simp) (.slice (some ⟨g, 0, none⟩) (L.length + bs.length) cap)) (by simpa [Value.ownBlock] using hgk)
    simpa [u8s_append] using h1
  · exact ((h0.mono (by simp)).trans ((Upd.of_grown hgrow).mono (by simp; grind))).setCell (by simp) _
  · intro g' hg'
    simp only [Value.ownBlock, Option.some.injEq] at hg'
    subst hg'
    rcases hat with h1 | h1
    · exact .inl h1
    · exact .inr (by omega)

/-- The first byte of a number, and how many come behind it. -/
def headOf (x : Nat) : UInt8 × Nat := if x < 252 then (UInt8.ofNat x, 0) else if x < 65536 then (252, 2) else if x < 4294967296 then (253, 4) else (254, 8)
def uBytes (x : Nat) : List UInt8 := (headOf x).1 :: wideOf x (headOf x).2
theorem headOf_le (x : Nat) : (headOf x).2 ≤ 8 := by unfold headOf; split <;> (try split) <;> (try split) <;> simp
theorem uBytes_le (x : Nat) : (uBytes x).length ≤ 9 := by have := headOf_le x; simp [uBytes, wideOf_length]; omega

theorem head_any (x : Nat) (w : World) (hx : x < 18446744073709551616) :
    Calls Try.prog 101 #[.int .u64 x] w fun e w' => e = .returned (.tuple #[.int .u8 ((headOf x).1.toNat : Int), .int .i64 ((headOf x).2 : Int)]) ∧ w' = w := by
  obtain ⟨z, hz⟩ : ∃ z : Int, z = x := ⟨_, rfl⟩
  rw [← hz]
  have hH := hd (show (z < 252 ∧ headOf x = (UInt8.ofNat x, 0)) ∨ (¬ z < 252 ∧ z < 65536 ∧ headOf x = (252, 2)) ∨ (¬ z < 252 ∧ ¬ z < 65536 ∧ z < 4294967296 ∧ headOf x = (253, 4)) ∨ (¬ z < 252 ∧ ¬ z < 65536 ∧ ¬ z < 4294967296 ∧ headOf x = (254, 8)) by
    unfold headOf
    split
    · exact .inl ⟨by omega, rfl⟩
    split
    · exact .inr (.inl ⟨by omega, by omega, rfl⟩)
    split
    · exact .inr (.inr (.inl ⟨by omega, by omega, by omega, rfl⟩))
    · exact .inr (.inr (.inr ⟨by omega, by omega, by omega, rfl⟩)))
  have HZ := hd hz
  clear hz hx
  rcases hH.out with ⟨h, e⟩ | ⟨h, h', e⟩ | ⟨h, h', h'', e⟩ | ⟨h, h', h'', e⟩
  · have E := hd e
    clear e hH
    go_enter Try.func101, Try.ntmps101
    go_wp2_with fail
    go_ret2
    rw [E.out, HZ.out]
    exact ⟨by simp, rfl⟩
  all_goals
    have E := hd e
    clear e hH
    go_enter Try.func101, Try.ntmps101
    go_wp2_with fail
    go_ret2
    rw [E.out]
    exact ⟨rfl, rfl⟩

set_option maxHeartbeats 1000000 in
theorem U_any (B k ka : Nat) (xs : List Nat) (v : Value) (l : List UInt8) (w : World) (hw : WrAt B w k v l) (ha : Blk w ka (xs.map fun (x : Nat) => Value.int .u64 (x : Int)).toArray 52) (hx : ∀ x ∈ xs, x < 18446744073709551616)
    (hl : l.length + 9 * xs.length ≤ 1099511627776) (hB : B ≤ w.heap.size) :
    Calls Try.prog 90 #[.pointer (some ⟨k, 0, none⟩), .slice (some ⟨ka, 0, none⟩) xs.length xs.length] w fun e w' =>
      e = .returned (.pointer (some ⟨k, 0, none⟩)) ∧ ∃ v', WrAt B w' k v' (l ++ xs.flatMap uBytes) ∧ WrUp k v v' w w' := by
  have HINV := hd (show WrAt B w k v l ∧ WrUp k v v w w from ⟨hw, WrUp.refl _ _ _⟩)
  have hlt := hw.blk.lt
  have hka := blk_ne ha hw.blk (by decide)
  have hkv := blk_ne_own ha hw.own (by decide)
  have HA := hd ha
  have HX := hd hx
  clear hw ha hx
  go_enter Try.func90, Try.ntmps90
  go_wp2_with fail
  go_loopw [11] (fun i wr => ∃ (j : Nat) (v' : Value), j ≤ xs.length ∧ i = .int .i64 j ∧ WrAt B wr k v' (l ++ (xs.take j).flatMap uBytes) ∧ WrUp k v v' w wr) (fun i _ => xs.length - (intOf i).toNat)
  case atStart => exact ⟨0, v, Nat.zero_le _, rfl, by simpa using HINV.out⟩
  case round =>
    clear HINV
    obtain ⟨j, v', hj, rfl, hw', hu⟩ := hrel
    by_cases hjn : j < xs.length
    · have ha' := hu.blk HA.out hka hkv
      obtain ⟨x, hxe⟩ : ∃ x, xs[j]? = some x := ⟨_, List.getElem?_eq_getElem hjn⟩
      have hx64 := HX.out x (List.mem_of_getElem? hxe)
      have hcj : wr.cell? ⟨ka, j, none⟩ = some (.int .u64 (x : Int)) := by rw [ha'.cell]; simp [hxe]
      have hlx := hw'.blk.lt
      have hc0 : wr.cell? ⟨k, 0, none⟩ = some v' := hw'.blk.cell 0
      have HW := hd hw'
      have HU := hd hu
      have HA' := hd ha'
      clear hw' hu ha'
      go_wp2_with fail
      refine (head_any x _ hx64).mono ?_
      rintro e w2 ⟨rfl, rfl⟩
      have hne := HW.out.ne
      have hlen : (l ++ (xs.take j).flatMap uBytes).length ≤ l.length + 9 * j := by
        have h9 : ∀ ys : List Nat, (ys.flatMap uBytes).length ≤ 9 * ys.length := by
          intro ys
          induction ys with
          | nil => simp
          | cons y ys ih => have := uBytes_le y; simp at ih ⊢; omega
        have h1 := h9 (xs.take j)
        have h2 := List.length_take_le j xs
        rw [List.length_append]
        omega
      have hBw : B ≤ w2.heap.size := Nat.le_trans hB HU.out.upd.size
      obtain ⟨it, hi, hz0, hz1, hz2⟩ := u8_info
      have HN := hd (show (xs.take (j + 1)).flatMap uBytes = (xs.take j).flatMap uBytes ++ uBytes x by rw [List.take_add_one, hxe]; simp)
      generalize (xs.take j).flatMap uBytes = L0 at *
      generalize hL : l ++ L0 = L at *
      have hL := hd hL
      go_wp2_with (at_builtin; refine wpList_append_lies _ rfl _ _ _ rfl B 5 it _ 1 1 Try.underlying47 hi hz0 hz1 hz2 rfl (by omega) v' _ _ rfl (own_upd (L := []) HW.out.own ((Upd.refl _ _).alloc _) (fun _ _ => by simp)) ⟨w2.heap.size, 0, none⟩ 1 1 [_] rfl rfl (World.news_of_block (heap_alloc_new w2 _)) (by intro u hu; simp at hu; subst hu; rfl) (by omega) (by simp only [maxLen]; omega) (by omega) (by simp; omega) (w2.heap.size + 1) (by simp) ?_; intro g cap w1 hown hgrow hat hlt1; have hq := Blk.upd (HW.out.blk.alloc _) (Upd.of_grown hgrow) (by simpa using Ne.symm hne); have hqc := hq.cell 0; have hqf := hq.frozen 0; have hql := hq.lt; have HQ := hd hq; have HOWN := hd hown; have HGR := hd hgrow; have HAT := hd hat; clear hq hown hgrow hat)
      obtain ⟨hw3, hu3⟩ := wr_pushed (bs := [(headOf x).1]) HW.out ((Upd.refl [] _).alloc _) rfl HOWN.out HGR.out (by simpa using HAT.out)
      have HU3 := hd hu3
      refine (wide_any B k x (headOf x).2 _ _ _ hw3 hx64 (headOf_le x) (by simp; omega) (by have := hu3.upd.size; omega)).mono ?_
      rintro e w4 ⟨rfl, v4, hw4, hu4⟩
      have HW4 := hd hw4
      have HU4 := hd hu4
      clear hw3 hu3 hw4 hu4
      go_wp2_with fail
      refine ⟨⟨j + 1, v4, by omega, by go_num, ?_, HU.out.trans (HU3.out.trans HU4.out)⟩, by simp [intOf]; omega⟩
      have h4 := HW4.out
      rw [← hL.out] at h4
      rw [HN.out]
      simpa [uBytes] using h4
    · go_wp2_with fail
      go_ret
      obtain rfl : j = xs.length := by omega
      rw [List.take_length] at hw'
      exact ⟨rfl, v', hw', hu⟩
end Go.Proofs.Ytjaoiaknglnomaa
