/-
  How a list of texts that came in reads in memory. No condition beyond those that each theorem states.
-/
import Derived.Test.YtpniggmdokkkcaaGreatDoorMb0
import Derived.Test.YtpniggmdokkkcaaGreatDoorMb21
import Derived.ProofKit
import Derived.Deep.Slices
import Derived.Deep.Fields
import Derived.ChangeSame
import Derived.Test.YtpniggmdokkkcaaGreatDoorMb4
import Derived.Test.YtpniggmdokkkcaaGreatDoorRows
import Derived.ChangeVars
import Derived.JoinedOf
import Derived.RowKit
import Derived.RowKitTokens
import Derived.LaidLaws
import Derived.LaidHandle
import Derived.Stop.Joined
import Derived.HandedShaped
import Derived.Lay
import Derived.Test.YtpniggmdokkkcaaGreatDoorMb18
set_option linter.unusedVariables false
set_option linter.unusedSimpArgs false
set_option maxRecDepth 100000
namespace Go.Proofs.YtpniggmdokkkcaaGreatDoor
open Go.ChangeShapes Go.WideShapes Go.Deep Go.RowKit

def StrsAt (B : Nat) (w : World) (v : Value) (n : Nat) (f : Nat → List UInt8) : Prop :=
  ∃ (a : Option Addr) (c : Nat), v = .slice a n c ∧ n ≤ c ∧ c ≤ 9223372036854775807 ∧ (0 < n → ∃ k o, a = some ⟨k, o, none⟩ ∧ k < B ∧ ∀ i, i < n → w.cell? ⟨k, o + i, none⟩ = some (.string (txt (f i))) ∧ (f i).length ≤ 9223372036854775807)
def BoolsAt (B : Nat) (w : World) (v : Value) (n : Nat) (g : Nat → Bool) : Prop :=
  ∃ (a : Option Addr) (c : Nat), v = .slice a n c ∧ n ≤ c ∧ c ≤ 9223372036854775807 ∧ (0 < n → ∃ k o, a = some ⟨k, o, none⟩ ∧ k < B ∧ ∀ i, i < n → w.cell? ⟨k, o + i, none⟩ = some (.bool (g i)))
section
variable {H : Type} {enc : TypeId × Value → H} {w : World} {base : Nat} {spare : Nat → Bool} {held : Bool}
/-- A slice of one-cell elements. -/
theorem slice_one {t e : TypeId} {fuel : Nat} {cs : List Value} {x : DataW H × List MemPlace} (ht : Tryz.prog.underlying t = some (.slice e)) (hC : Tryz.prog.cellsOf e = 1) (h : DataW.trod enc Tryz.prog w base spare held fuel t cs = some x) :
    ∃ (a : Option Addr) (len cap : Nat), cs = [.slice a len cap] ∧ len ≤ cap ∧ cap ≤ maxLen ∧ (0 < len → ∃ k o, a = some ⟨k, o, none⟩ ∧ k < w.heap.size ∧
      ∀ i, i < len → ∃ (v : Value) (y : DataW H × List MemPlace) (n : Nat), w.cell? ⟨k, o + i, none⟩ = some v ∧ DataW.trod enc Tryz.prog w base spare held n e [v] = some y) := by
  rcases open_slice ht h with ⟨hcs, _⟩ | ⟨a, len, cap, m, n, D, Pl, hcs, hb, hl, hm, hmm, hx, hi⟩
  · exact ⟨none, 0, 0, hcs, by omega, by unfold maxLen; omega, by omega⟩
  · have key : ∀ i, i < len → ∃ (v : Value) (y : DataW H × List MemPlace) (n : Nat), w.cell? (a.add i) = some v ∧ DataW.trod enc Tryz.prog w base spare held n e [v] = some y := fun i him => by
      obtain ⟨cs', hc, ht'⟩ := hi i (by rw [hmm]; split <;> omega)
      rw [hC] at hc
      obtain ⟨_, hcl, hat⟩ := World.cells?_some hc
      match cs', hcl, hat, ht' with
      | [v], _, hat, ht' =>
        have h0 := hat 0 (by omega)
        rw [Go.Deep.add_add, Nat.mul_one, Nat.add_zero] at h0
        exact ⟨v, _, _, h0, ht'⟩
    refine ⟨some a, len, cap, hcs, hl, hm, fun hpos => ?_⟩
    obtain ⟨v0, _, _, hc0, _⟩ := key 0 hpos
    have e0 := addr_add hc0
    refine ⟨a.block, a.off, ?_, ?_, fun i him => ?_⟩
    · have hs := World.cell?_spot hc0
      obtain ⟨bb, bo, bs⟩ := a
      simp [Addr.add] at hs
      subst hs
      rfl
    · have := World.block_lt_of_cell? w _ hc0
      rw [e0] at this
      exact this
    · obtain ⟨v, y, n, hc, hy⟩ := key i him
      rw [addr_add hc] at hc
      exact ⟨v, y, n, hc, hy⟩
theorem strs_at {fuel : Nat} {v : Value} {x : DataW H × List MemPlace} (h : DataW.trod enc Tryz.prog w base spare held fuel 33 [v] = some x) : ∃ n f, StrsAt w.heap.size w v n f := by
  obtain ⟨a, len, cap, hcs, hl, hm, hel⟩ := slice_one Tryz.underlying33 (by kernel_rfl) h
  simp at hcs
  subst hcs
  by_cases hp : 0 < len
  · obtain ⟨k, o, rfl, hk, hf⟩ := hel hp
    have hx : ∀ i, ∃ l : List UInt8, i < len → w.cell? ⟨k, o + i, none⟩ = some (.string (txt l)) ∧ l.length ≤ 9223372036854775807 := fun i => by
      by_cases hi : i < len
      · obtain ⟨u, y, n, hc, hy⟩ := hf i hi
        obtain ⟨s, e, _, hs⟩ := DataW.trod_string Tryz.underlying9 hy
        simp at e
        subst e
        refine ⟨s.data.toList, fun _ => ⟨by rw [txt_data]; exact hc, ?_⟩⟩
        rw [Array.length_toList, ByteArray.size_data]
        simpa [maxLen] using hs
      · exact ⟨[], fun h => absurd h hi⟩
    obtain ⟨f, hff⟩ := Classical.skolem.1 hx
    exact ⟨len, f, some ⟨k, o, none⟩, cap, rfl, hl, by simpa [maxLen] using hm, fun _ => ⟨k, o, rfl, hk, hff⟩⟩
  · exact ⟨len, fun _ => [], a, cap, rfl, hl, by simpa [maxLen] using hm, fun h => absurd h hp⟩
end

theorem txs_of {w : World} {v : Value} {n : Nat} {f : Nat → List UInt8} (h : StrsAt w.heap.size w v n f) : TxsAt w v ((List.range n).map f) ∧ ∀ x ∈ (List.range n).map f, 0 < n → x.length ≤ 9223372036854775807 := by
  obtain ⟨a, c, rfl, h1, h2, h3⟩ := h
  have hl : ((List.range n).map f).length = n := by simp
  refine ⟨⟨a, c, by rw [hl], by omega, h2, fun h0 => ?_⟩, fun x hx h0 => ?_⟩
  · obtain ⟨k, o, e, hk, hc⟩ := h3 (by omega)
    exact ⟨k, o, e, hk, fun i hi => by rw [(hc i (by omega)).1]; simp⟩
  · obtain ⟨k, o, e, hk, hc⟩ := h3 h0
    obtain ⟨i, hi, rfl⟩ := List.mem_map.1 hx
    exact (hc i (List.mem_range.1 hi)).2
theorem txs_in {H : Type} {enc : TypeId × Value → H} {w : World} {base : Nat} {spare : Nat → Bool} {held : Bool} {fuel : Nat} {v : Value} {x : DataW H × List MemPlace} (h : DataW.trod enc Tryz.prog w base spare held fuel 33 [v] = some x) :
    ∃ l, TxsAt w v l ∧ ∀ x ∈ l, x.length ≤ 9223372036854775807 := by
  obtain ⟨n, f, hs⟩ := strs_at h
  obtain ⟨h1, h2⟩ := txs_of hs
  exact ⟨_, h1, fun x hx => h2 x hx (by have := List.length_pos_of_mem hx; simpa using this)⟩
end Go.Proofs.YtpniggmdokkkcaaGreatDoor

/-
  The calls that the statements of layer 22 get, as plain data and in memory; how they came in. No condition beyond those that each theorem states.
-/
set_option linter.unusedVariables false
set_option linter.unusedSimpArgs false
set_option maxRecDepth 100000
namespace Go.Proofs.YtpniggmdokkkcaaGreatDoor
open Go.ChangeShapes Go.WideShapes Go.Deep Go.RowKit

structure ActS where
  kind : Int
  ses : Int
  parts : List (List UInt8)
  excl : Bool
  wait : Bool
def W64 (n : Int) : Prop := -9223372036854775808 ≤ n ∧ n ≤ 9223372036854775807
/-- One call, in memory at an address. -/
def ActAt (w : World) (k o : Nat) (x : ActS) : Prop :=
  W64 x.kind ∧ W64 x.ses ∧ (∀ y ∈ x.parts, y.length ≤ 9223372036854775807) ∧ k < w.heap.size ∧ ∃ a c, TxsAt w (.slice a x.parts.length c) x.parts ∧ w.cell? ⟨k, o, none⟩ = some (.int .i64 x.kind) ∧ w.cell? ⟨k, o + 1, none⟩ = some (.int .i64 x.ses) ∧ w.cell? ⟨k, o + 2, none⟩ = some (.slice a x.parts.length c) ∧ w.cell? ⟨k, o + 3, none⟩ = some (.bool x.excl) ∧ w.cell? ⟨k, o + 4, none⟩ = some (.bool x.wait)
theorem ActAt.later {w w' : World} {k o : Nat} {x : ActS} (h : ActAt w k o x) (hu : Upd [] w w') : ActAt w' k o x := by
  obtain ⟨h1, h2, h3, hk, a, c, h4, q0, q1, q2, q3, q4⟩ := h
  have e : ∀ j, w'.cell? ⟨k, j, none⟩ = w.cell? ⟨k, j, none⟩ := fun j => World.cell?_of_block (hu.block k hk (by simp))
  exact ⟨h1, h2, h3, Nat.lt_of_lt_of_le hk hu.size, a, c, h4.upd hu, by rw [e, q0], by rw [e, q1], by rw [e, q2], by rw [e, q3], by rw [e, q4]⟩
def ActsAt (w : World) (v : Value) (l : List ActS) : Prop :=
  ∃ (a : Option Addr) (c : Nat), v = .slice a l.length c ∧ l.length ≤ c ∧ c ≤ 9223372036854775807 ∧ (0 < l.length → ∃ k o, a = some ⟨k, o, none⟩ ∧ ∀ i (h : i < l.length), ActAt w k (o + i * 5) l[i])
theorem ActsAt.later {w w' : World} {v : Value} {l : List ActS} (h : ActsAt w v l) (hu : Upd [] w w') : ActsAt w' v l := by
  obtain ⟨a, c, h1, h2, h3, h4⟩ := h
  refine ⟨a, c, h1, h2, h3, fun h0 => ?_⟩
  obtain ⟨k, o, e, hc⟩ := h4 h0
  exact ⟨k, o, e, fun i hi => (hc i hi).later hu⟩

section
variable {H : Type} {enc : TypeId × Value → H} {w : World} {base : Nat} {spare : Nat → Bool} {held : Bool}
theorem int_in {fuel : Nat} {v : Value} {x : DataW H × List MemPlace} (h : DataW.trod enc Tryz.prog w base spare held fuel 3 [v] = some x) : ∃ n, v = .int .i64 n ∧ W64 n := by
  obtain ⟨n, e, h1, h2⟩ := DataW.trod_int Tryz.underlying3 h
  simp only [Lit.wf] at h2
  simp at e
  exact ⟨n, e, by simp only [Bool.and_eq_true, decide_eq_true_eq] at h2; unfold W64; have h3 := h2.1; have h4 := h2.2; change (-9223372036854775808 : Int) ≤ n at h3; change n ≤ (9223372036854775807 : Int) at h4; exact ⟨h3, h4⟩⟩
theorem u64_in {fuel : Nat} {n : Int} {x : DataW H × List MemPlace} (h : DataW.trod enc Tryz.prog w base spare held fuel 22 [.int .u64 n] = some x) : 0 ≤ n ∧ n ≤ 18446744073709551615 := by
  obtain ⟨m, e, h1, h2⟩ := DataW.trod_int Tryz.underlying22 h
  simp only [List.cons.injEq, Value.int.injEq, true_and, and_true] at e
  subst e
  simp only [Lit.wf] at h2
  simp only [Bool.and_eq_true, decide_eq_true_eq] at h2
  have h3 := h2.1
  have h4 := h2.2
  change (0 : Int) ≤ n at h3
  change n ≤ (18446744073709551615 : Int) at h4
  exact ⟨h3, h4⟩
theorem bool_in {fuel : Nat} {v : Value} {x : DataW H × List MemPlace} (h : DataW.trod enc Tryz.prog w base spare held fuel 4 [v] = some x) : ∃ b, v = .bool b := by
  obtain ⟨n, e, h1⟩ := DataW.trod_bool Tryz.underlying4 h
  simp at e
  exact ⟨n, e⟩
theorem acts_in {fuel : Nat} {v : Value} {x : DataW H × List MemPlace} (h : DataW.trod enc Tryz.prog w base spare held fuel 23 [v] = some x) : ∃ l, ActsAt w v l := by
  obtain ⟨a, len, cap, hcs, hl, hm, hel⟩ := slice_fields Tryz.underlying23 Tryz.underlying35 (by kernel_rfl) (by kernel_rfl) h
  simp at hcs
  subst hcs
  by_cases hp : 0 < len
  · obtain ⟨b, rfl, hf⟩ := hel hp
    have hb : b = ⟨b.block, b.off, none⟩ := by
      obtain ⟨v0, _, _, hc0, _⟩ := hf 0 hp 0 _ rfl
      have hs := World.cell?_spot hc0
      obtain ⟨bb, bo, bs⟩ := b
      simp [Addr.add] at hs
      subst hs
      rfl
    have hx : ∀ i, ∃ y : ActS, i < len → ActAt w b.block (b.off + i * 5) y := fun i => by
      by_cases hi : i < len
      · obtain ⟨v0, y0, n0, c0, r0⟩ := hf i hi 0 _ rfl
        obtain ⟨v1, y1, n1, c1, r1⟩ := hf i hi 1 _ rfl
        obtain ⟨v2, y2, n2, c2, r2⟩ := hf i hi 2 _ rfl
        obtain ⟨v3, y3, n3, c3, r3⟩ := hf i hi 3 _ rfl
        obtain ⟨v4, y4, n4, c4, r4⟩ := hf i hi 4 _ rfl
        obtain ⟨z0, rfl, b0⟩ := int_in r0
        obtain ⟨z1, rfl, b1⟩ := int_in r1
        obtain ⟨l2, hx2, hy2⟩ := txs_in r2
        obtain ⟨z3, rfl⟩ := bool_in r3
        obtain ⟨z4, rfl⟩ := bool_in r4
        rw [addr_add c0] at c0
        rw [addr_add c1] at c1
        rw [addr_add c2] at c2
        rw [addr_add c3] at c3
        rw [addr_add c4] at c4
        have hk := World.block_lt_of_cell? w _ c0
        have hh := hx2
        obtain ⟨pa, pc, rfl, -⟩ := hh
        exact ⟨⟨z0, z1, l2, z3, z4⟩, fun _ => ⟨b0, b1, hy2, hk, pa, pc, hx2, c0, c1, c2, c3, c4⟩⟩
      · exact ⟨⟨0, 0, [], false, false⟩, fun h => absurd h hi⟩
    obtain ⟨f, hff⟩ := Classical.skolem.1 hx
    have hll : ((List.range len).map f).length = len := by simp
    refine ⟨(List.range len).map f, some b, cap, by rw [hll], by omega, by simpa [maxLen] using hm, fun _ => ⟨b.block, b.off, by rw [← hb], fun i hi => ?_⟩⟩
    have := hff i (by omega)
    simpa using this
  · have : len = 0 := by omega
    subst this
    exact ⟨[], a, cap, rfl, hl, by simpa [maxLen] using hm, fun h => absurd h (by simp)⟩
end
end Go.Proofs.YtpniggmdokkkcaaGreatDoor

/-
  The two books between two calls of the laws of layer 22, in memory; what a call leaves. No condition beyond those that each theorem states.
-/
set_option linter.unusedVariables false
set_option linter.unusedSimpArgs false
set_option maxRecDepth 100000
namespace Go.Proofs.YtpniggmdokkkcaaGreatDoor
open Go.RowKit

/-- The two books after some calls, in memory. -/
structure PSt (w0 : World) (k kx n : Nat) (wr : World) (vh vw rh rw' : Value) (d : BkS) (lh lw : List RLk) (last : Int) : Prop where
  book : BookAt w0.heap.size wr k vh vw d
  blk : Blk wr kx #[rh, rw', .int .u64 last] 29
  rel : Rel d ⟨fsts lh, fsts lw, last⟩
  rh : RRow w0.heap.size wr rh lh
  rw' : RRow w0.heap.size wr rw' lw
  upd : Upd [] w0 wr
  far : ∀ g ∈ foot k vh vw, w0.heap.size ≤ g
  kx : w0.heap.size ≤ kx
  wf : WfB d
  few : tot d ≤ n
  ses : Ses (fun z => 1 ≤ z ∧ z ≤ 9) d
def PSt' (w0 : World) (k kx n : Nat) (wr : World) : Prop := ∃ vh vw rh rw' d lh lw last, PSt w0 k kx n wr vh vw rh rw' d lh lw last
theorem PSt.later {w0 : World} {k kx n : Nat} {wr w : World} {vh vw rh rw' : Value} {d : BkS} {lh lw : List RLk} {last : Int} (h : PSt w0 k kx n wr vh vw rh rw' d lh lw last) (hu : Upd [] wr w) : PSt w0 k kx n w vh vw rh rw' d lh lw last :=
  ⟨h.book.later hu, h.blk.upd hu (by simp), h.rel, h.rh.later hu, h.rw'.later hu, h.upd.trans hu, h.far, h.kx, h.wf, h.few, h.ses⟩
theorem PSt.six {w0 : World} {k kx n : Nat} {wr : World} {vh vw rh rw' : Value} {d : BkS} {lh lw : List RLk} {last : Int} (h : PSt w0 k kx n wr vh vw rh rw' d lh lw last) : ∀ e ∈ lh, Six e.1.path :=
  fun e he => h.rel.six e.1 (List.mem_append_left _ (List.mem_map.2 ⟨e, he, rfl⟩))
theorem PSt.is {w0 : World} {k kx n : Nat} {wr : World} {vh vw rh rw' : Value} {d : BkS} {lh lw : List RLk} {last : Int} (h : PSt w0 k kx n wr vh vw rh rw' d lh lw last) (W : World) (hu : Upd [] wr W) (hD : Door W) :
    Calls Tryz.prog 10 #[.pointer (some ⟨k, 0, none⟩), .agg #[rh, rw', .int .u64 last]] W fun r w' => r = .returned (.bool true) ∧ Upd [] W w' :=
  is22_any last W (h.book.later hu) hD h.wf (h.rh.later hu) (h.rw'.later hu) (isdoc_of h.rel) h.six
theorem PSt.kxf {w0 : World} {k kx n : Nat} {wr : World} {vh vw rh rw' : Value} {d : BkS} {lh lw : List RLk} {last : Int} (h : PSt w0 k kx n wr vh vw rh rw' d lh lw last) : kx ∉ foot k vh vw := by
  intro hm
  have := foot_kind h.book kx hm
  obtain ⟨c, T, hc, -, -⟩ := this
  have hb2 := h.blk
  rcases mem_foot.1 hm with e | e | e
  · have h3 := h.book.blk
    rw [← e] at h3
    rw [Blk, hb2] at h3
    simp only [Option.some.injEq, Obj.cells.injEq] at h3
    exact absurd h3.2 (by decide)
  · exact own_ne_any h.book.held hb2 (by decide) kx e rfl
  · exact own_ne_any h.book.waits hb2 (by decide) kx e rfl
/-- What a call leaves behind the law's own store. -/
structure DoneAt (B k : Nat) (vh vw : Value) (d : BkS) (w wx : World) (k9 : Nat) (vh5 vw5 rh5 rw5 : Value) (d5 : BkS) (lh5 lw5 : List RLk) (last5 : Int) : Prop where
  book : BookAt B wx k vh5 vw5 d5
  rel : Rel d5 ⟨fsts lh5, fsts lw5, last5⟩
  hh : RRow B wx rh5 lh5
  hw : RRow B wx rw5 lw5
  upd : Upd (foot k vh vw) w wx
  far : ∀ g ∈ foot k vh5 vw5, g ∈ foot k vh vw ∨ w.heap.size ≤ g
  wf : WfB d5
  few : tot d5 ≤ tot d + 1
  ses : Ses (fun z => 1 ≤ z ∧ z ≤ 9) d5
  call : CallOf d d5
  blk : Blk wx k9 #[rh5, rw5, .int .u64 last5] 29
  ge : w.heap.size ≤ k9
theorem DoneAt.later {B k : Nat} {vh vw : Value} {d : BkS} {w wx wy : World} {k9 : Nat} {vh5 vw5 rh5 rw5 : Value} {d5 : BkS} {lh5 lw5 : List RLk} {last5 : Int} (h : DoneAt B k vh vw d w wx k9 vh5 vw5 rh5 rw5 d5 lh5 lw5 last5) (hu : Upd [] wx wy) : DoneAt B k vh vw d w wy k9 vh5 vw5 rh5 rw5 d5 lh5 lw5 last5 :=
  ⟨h.book.later hu, h.rel, h.hh.later hu, h.hw.later hu, h.upd.trans (hu.mono (by simp)), h.far, h.wf, h.few, h.ses, h.call, h.blk.upd hu (by simp), h.ge⟩
/-- The store goes into a block that lay there already. -/
theorem done_a {B k : Nat} {vh vw : Value} {d : BkS} {w wa w5 : World} {k9 : Nat} {c0 c1 c2 : Value} {vh5 vw5 rh5 rw5 : Value} {d5 : BkS} {lh5 lw5 : List RLk} {last5 : Int} (hwa : Upd [] w wa) (hb : BookAt B w5 k vh5 vw5 d5) (hr : Rel d5 ⟨fsts lh5, fsts lw5, last5⟩) (h1 : RRow B w5 rh5 lh5) (h2 : RRow B w5 rw5 lw5)
    (hu : Upd (foot k vh vw) wa w5) (hf : ∀ g ∈ foot k vh5 vw5, g ∈ foot k vh vw ∨ wa.heap.size ≤ g) (hw : WfB d5) (ht : tot d5 ≤ tot d + 1) (hs : Ses (fun z => 1 ≤ z ∧ z ≤ 9) d5 ∧ CallOf d d5) (hbk : Blk w5 k9 #[c0, c1, c2] 29) (hk : w.heap.size ≤ k9) (hkl : k9 < wa.heap.size) (hkf : k9 ∉ foot k vh vw) :
    DoneAt B k vh vw d w (((w5.setCell ⟨k9, 0, none⟩ rh5).setCell ⟨k9, 1, none⟩ rw5).setCell ⟨k9, 2, none⟩ (.int .u64 last5)) k9 vh5 vw5 rh5 rw5 d5 lh5 lw5 last5 := by
  have hk9 := up3 (k := k9) (Upd.refl [k9] w5) (.inl (by simp)) rh5 rw5 (.int .u64 last5)
  have hs1 := hwa.size
  refine ⟨hb.later' hk9 (fun i hi hm => ?_), hr, h1.far hbk (by decide) (by decide) hk9, h2.far hbk (by decide) (by decide) hk9, ((hwa.mono (M := foot k vh vw) (by simp)).trans hu).trans' hk9 (fun i hi => .inr ?_), fun g hg => (hf g hg).elim .inl (fun h => .inr (by omega)), hw, ht, hs.1, hs.2, putB hbk _ _ _, hk⟩
  · simp only [List.mem_cons, List.not_mem_nil, or_false] at hm
    subst hm
    rcases hf _ hi with h3 | h3
    · exact hkf h3
    · omega
  · simp only [List.mem_cons, List.not_mem_nil, or_false] at hi
    omega
/-- The store goes into a new block. -/
theorem done_b {B k : Nat} {vh vw : Value} {d : BkS} {w wa w5 : World} {vh5 vw5 rh5 rw5 : Value} {d5 : BkS} {lh5 lw5 : List RLk} {last5 : Int} (hwa : Upd [] w wa) (hb : BookAt B w5 k vh5 vw5 d5) (hr : Rel d5 ⟨fsts lh5, fsts lw5, last5⟩) (h1 : RRow B w5 rh5 lh5) (h2 : RRow B w5 rw5 lw5)
    (hu : Upd (foot k vh vw) wa w5) (hf : ∀ g ∈ foot k vh5 vw5, g ∈ foot k vh vw ∨ wa.heap.size ≤ g) (hw : WfB d5) (ht : tot d5 ≤ tot d + 1) (hs : Ses (fun z => 1 ≤ z ∧ z ≤ 9) d5 ∧ CallOf d d5) :
    DoneAt B k vh vw d w (w5.alloc (.cells #[rh5, rw5, .int .u64 last5] 29)) w5.heap.size vh5 vw5 rh5 rw5 d5 lh5 lw5 last5 := by
  have hs1 := hwa.size
  have hs2 := hu.size
  have ha := (Upd.refl [] w5).alloc (.cells #[rh5, rw5, .int .u64 last5] 29)
  exact ⟨hb.later ha, hr, h1.later ha, h2.later ha, ((hwa.mono (M := foot k vh vw) (by simp)).trans hu).trans (ha.mono (by simp)), fun g hg => (hf g hg).elim .inl (fun h => .inr (by omega)), hw, ht, hs.1, hs.2, Blk.new _ _ _, by omega⟩
/-- One call more. -/
theorem PSt.next {w0 : World} {k kx n : Nat} {wr w W : World} {vh vw rh rw' vh2 vw2 rh2 rw2 : Value} {d d2 : BkS} {lh lw lh2 lw2 : List RLk} {last last2 : Int} (h : PSt w0 k kx n wr vh vw rh rw' d lh lw last)
    (hb : BookAt w0.heap.size w k vh2 vw2 d2) (hr : Rel d2 ⟨fsts lh2, fsts lw2, last2⟩) (h1 : RRow w0.heap.size w rh2 lh2) (h2 : RRow w0.heap.size w rw2 lw2) (hu : Upd (foot k vh vw) wr w)
    (hf : ∀ g ∈ foot k vh2 vw2, g ∈ foot k vh vw ∨ wr.heap.size ≤ g) (hw : WfB d2) (ht : tot d2 ≤ tot d + 1) (hs : Ses (fun z => 1 ≤ z ∧ z ≤ 9) d2)
    (hW : (((w.setCell ⟨kx, 0, none⟩ rh2).setCell ⟨kx, 1, none⟩ rw2).setCell ⟨kx, 2, none⟩ (.int .u64 last2)) = W) : PSt w0 k kx (n + 1) W vh2 vw2 rh2 rw2 d2 lh2 lw2 last2 := by
  have hkx := h.kxf
  have hbx := h.blk.upd hu hkx
  have hk9 := up3 (k := kx) (Upd.refl [kx] w) (.inl (by simp)) rh2 rw2 (.int .u64 last2)
  have hlt := h.blk.lt
  rw [hW] at hk9
  refine ⟨hb.later' hk9 (fun i hi hm => ?_), ?_, hr, h1.far hbx (by decide) (by decide) hk9, h2.far hbx (by decide) (by decide) hk9, (h.upd.trans' hu (fun i hi => .inr (h.far i hi))).trans' hk9 (fun i hi => .inr ?_), fun g hg => ?_, h.kx, hw, by have := h.few; omega, hs⟩
  · simp only [List.mem_cons, List.not_mem_nil, or_false] at hm
    subst hm
    rcases hf _ hi with h3 | h3
    · exact hkx h3
    · omega
  · rw [← hW]
    exact putB hbx _ _ _
  · simp only [List.mem_cons, List.not_mem_nil, or_false] at hi
    rw [hi]; exact h.kx
  · rcases hf _ hg with h3 | h3
    · exact h.far g h3
    · have := h.upd.size; omega
/-- A book that nothing of a call turns. -/
theorem book_far {B k k' : Nat} {w w2 : World} {vh vw vh' vw' : Value} {d d' : BkS} {m : Nat} (h : BookAt B w k vh vw d) (h' : BookAt m w k' vh' vw' d') (hm : ∀ i ∈ foot k vh vw, i < m) (hk : m ≤ k') (hu : Upd (foot k vh vw) w w2) : BookAt m w2 k' vh' vw' d' :=
  h'.later' hu (fun i hi hj => by
    have h1 := hm i hj
    rcases mem_foot.1 hi with e | e | e
    · omega
    · have := own_ge h'.held i e; omega
    · have := own_ge h'.waits i e; omega)
theorem book_off {m k' : Nat} {L : List Nat} {w w2 : World} {vh' vw' : Value} {d' : BkS} (h' : BookAt m w k' vh' vw' d') (hL : ∀ i ∈ L, i < m) (hk : m ≤ k') (hu : Upd L w w2) : BookAt m w2 k' vh' vw' d' :=
  h'.later' hu (fun i hi hj => by
    have h1 := hL i hj
    rcases mem_foot.1 hi with e | e | e
    · omega
    · have := own_ge h'.held i e; omega
    · have := own_ge h'.waits i e; omega)
end Go.Proofs.YtpniggmdokkkcaaGreatDoor

/-
  The fixed fact of layer 5's statements, and the law PathParses, walked: it answers true. Condition: the library's variables hold what they are laid to hold.
-/
set_option linter.unusedVariables false
set_option linter.unusedSimpArgs false
set_option maxRecDepth 100000
namespace Go.Proofs.YtpniggmdokkkcaaGreatDoor
open Go.RowKit

theorem parse5_inv {s : List UInt8} {l : List (List UInt8)} (h : parse5 s = some l) : madeL l = true ∧ (if textL l = [] then [47] else textL l) = s ∧ parts5 (textL l) = l ∧ (textL l).count 47 = l.length := by
  unfold parse5 at h
  split at h
  · rename_i h1
    simp at h
    subst h
    subst h1
    exact ⟨by decide, rfl, rfl, rfl⟩
  · split at h
    · cases h
    · rename_i c r
      split at h
      · rename_i h1
        obtain ⟨h1, h2⟩ := h1
        simp at h
        subst h
        subst h1
        refine ⟨h2, ?_, ?_, ?_⟩
        · rw [text_split, if_neg (by simp)]
        · rw [text_split]
          unfold parts5
          rw [if_neg (by simp)]
          rfl
        · rw [text_split, List.count_cons_self, splitL_length]
      · cases h
theorem lit_ab : parse5 [47, 97, 47, 98] = some [[97], [98]] := by decide
theorem lit_a : parse5 [47, 97, 47] = none := by decide

theorem trail_no : trailOf noPath = [[112, 97, 116, 104]] := rfl
end Go.Proofs.YtpniggmdokkkcaaGreatDoor

/-
  From a tied row's conditions to what the walks ask of the library's variables; a world that meets the conditions. No condition beyond those that each theorem states.
-/
set_option linter.unusedVariables false
set_option linter.unusedSimpArgs false
set_option maxRecDepth 100000
namespace Go.Proofs.YtpniggmdokkkcaaGreatDoor
open Go.RowKit Go.ChangeShapes Go.WideShapes

theorem returns_and_shaped {H : Type} {enc : TypeId × Value → H} {a : Assume} {C : Checked} {os : Os} {f : FuncId} {fn : Func} {s : ChangeSpec} {conds : List PathCond} {apart fresh handsOn again : Bool} {X : World → Array Value → Prop}
    (hX : ∀ (w w' : World) (args : Array Value), w.heap = w'.heap → X w args → X w' args)
    (own : ownKnob C.prog.godebug = none) (started : os.Started) (noInit : C.prog.inits.idxOf? f = none) (hfn : C.prog.funcs[f]? = some fn)
    (witness : ∃ (w : World) (tape : Tape) (i : Input), w.os = os ∧ (w.forCall tape i).Shaped C.prog ∧ i.vars = [] ∧ Input.okWide C.prog (w.forCall tape i) .any w.heap.size f i ∧
      ((s.pre enc C.prog fn conds apart (w.forCall tape i).memory i.args ∧ X (w.forCall tape i).memory i.args) ∧ sizedMet enc C.prog fn (OpenSpec.ofChange s) apart (w.forCall tape i).memory i.args) ∧ a.holds C.prog (lone (Frame.enter C.prog f i.args .normal) [] (w.forCall tape i)))
    (contract : ∀ (W : World) (base : Nat) (args : Array Value) (ds gs : List (DataW H)) (before : List MemPlace),
      (∀ (j : Nat) t v, fn.params[j]? = some t → args[j]? = some v → Value.okWide C.prog W .any base t v) →
      DataW.Whole enc C.prog fn.params.toList s.vars apart W args.toList ds gs before →
      X W args → W.ShapedOpen C.prog →
      Calls C.prog f args W fun e W' => ∃ v, e = .returned v ∧ s.post enc C.prog fn apart fresh handsOn again W args v W') :
    ReturnsInHanded a C os f .any (fun w args => (s.pre enc C.prog fn conds apart w args ∧ X w args) ∧ sizedMet enc C.prog fn (OpenSpec.ofChange s) apart w args) (s.post enc C.prog fn apart fresh handsOn again) := by
  refine returnsInHanded_of_calls own started noInit witness ?_
  intro w tape i _ hsh _ hok hpre hholds
  obtain ⟨_, _, _, fn', hfn', _, _, _, _, hval⟩ := hok
  have e : fn' = fn := Option.some.inj (hfn'.symm.trans hfn)
  subst e
  obtain ⟨⟨⟨ds, gs, before, hw, hc⟩, hx⟩, hz⟩ := hpre
  have hw' := DataW.Whole.of_heap (w' := w.forCall tape i) (by rfl) hw
  refine (contract (w.forCall tape i) w.heap.size i.args ds gs before hval hw' (hX _ _ _ (by rfl) hx) hsh).mono fun e W' ⟨v, he, hp⟩ => ?_
  subst he
  exact ChangeSpec.post_blind hp

/-- What the rows list. -/
def laid05 : List (String × DataW Unit) := [("unicode/utf8.acceptRanges", Rows.laid_unicode_utf8_acceptRanges), ("errors.errorType", Rows.laid_errors_errorType), ("unicode/utf8.first", Rows.laid_unicode_utf8_first)]
def plain05 : List (String × DataW Unit) := [("unicode/utf8.acceptRanges", Rows.laid_unicode_utf8_acceptRanges), ("unicode/utf8.first", Rows.laid_unicode_utf8_first)]
noncomputable def start05 (os : Os) : World :=
  let w0 := World.holding Tryz.prog os ⟨#[], #[], []⟩
  { w0 with heap := w0.heap.modify 1 fun
      | .cells _ t frozen => .cells #[.iface 162 (.agg #[.pointer (some ⟨4, 87, none⟩)])] t frozen
      | o => o }
noncomputable def world05 (os : Os) : World := (start05 os).layVars Tryz.prog plain05
theorem world05_os (os : Os) : (world05 os).os = os := World.layVars_os _ _ _
theorem met05 (os : Os) (args : Array Value) : laidMetH Tryz.prog laid05 ((world05 os).forCall (fun _ _ => 0) ⟨#[], args, []⟩).memory := by
  refine laidMetH_of_parts ?_ ?_
  · have e0 : (laid05.filter fun x => x.2.handleName?.isNone) = plain05 := by kernel_rfl
    rw [e0]
    have h : laidMet Tryz.prog plain05 (world05 os) := laidMet_layVars (w0 := start05 os) ["unicode/utf8.acceptRanges", "unicode/utf8.first"] [] (by kernel_rfl) (by kernel_rfl) (by kernel_rfl) (by
      have e2 : (plain05.filter fun x => !["unicode/utf8.acceptRanges", "unicode/utf8.first"].contains x.1) = [] := by kernel_rfl
      rw [e2]; exact LaidIn.none)
    exact h.of_heap (by simp [World.memory, World.forCall, Input.heap])
  · kernel_rfl

theorem etype05 : Tryz.prog.globalNamed "errors.errorType" = some 1 := by kernel_rfl
theorem rtype05 : (Tryz.prog.cutTypes.find? (·.1 == "internal/reflectlite.rtype")).map (·.2) = some 162 := by kernel_rfl
theorem size05 : Tryz.prog.types.size = 207 := by kernel_rfl
theorem row05 : ((List.range 207).filter fun t => Tryz.prog.rowNamed t [101, 114, 114, 111, 114]) = [87] := by kernel_rfl
theorem handle05 {W : World} (h : laidMetH Tryz.prog laid05 W) : W.cell? ⟨1, 0, none⟩ = some (.iface 162 (.agg #[.pointer (some ⟨4, 87, none⟩)])) := by
  have h' : laidMet Tryz.prog plain05 W ∧ handlesMet Tryz.prog [("errors.errorType", Rows.laid_errors_errorType)] W := h
  obtain ⟨name, u, ty, e1, e2, e3, e4, e5⟩ := h'.2 _ (List.mem_singleton.2 rfl)
  have en : name = [101, 114, 114, 111, 114] := (Option.some.inj e1).symm
  subst en
  obtain rfl := Option.some.inj (rtype05.symm.trans e2)
  have hm : ty ∈ (List.range 207).filter fun t => Tryz.prog.rowNamed t [101, 114, 114, 111, 114] := List.mem_filter.2 ⟨List.mem_range.2 (by rw [← size05]; exact e3), e4⟩
  rw [row05] at hm
  obtain rfl := List.mem_singleton.1 hm
  have hh : typeHandle Tryz.prog 87 = .pointer (some ⟨4, 87, none⟩) := by kernel_rfl
  rw [hh] at e5
  simpa using World.var?_cell etype05 e5 0
theorem door05 {W : World} (h : laidMetH Tryz.prog laid05 W) (hs : W.ShapedOpen Tryz.prog) : Door W := ⟨handle05 h, Tryz.laysM146.s1_3 W hs⟩
end Go.Proofs.YtpniggmdokkkcaaGreatDoor

/-
  What the laws of layer 22 share, gathered. No condition beyond those that each theorem states.
-/
namespace Go.Proofs.YtpniggmdokkkcaaGreatDoor
end Go.Proofs.YtpniggmdokkkcaaGreatDoor
