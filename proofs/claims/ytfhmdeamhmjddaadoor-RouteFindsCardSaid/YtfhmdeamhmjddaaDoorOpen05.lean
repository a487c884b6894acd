/-
  How a list of texts that came in reads in memory. No condition beyond those that each theorem states.
-/
import Derived.Test.YtfhmdeamhmjddaaDoorTxt05
import Derived.Test.YtfhmdeamhmjddaaDoorOpen
import Derived.ProofKit
import Derived.Deep.Slices
import Derived.Deep.Fields
import Derived.ChangeSame
set_option linter.unusedVariables false
set_option linter.unusedSimpArgs false
set_option maxRecDepth 100000
namespace Go.Proofs.YtfhmdeamhmjddaaDoor
open Go.ChangeShapes Go.WideShapes Go.Deep Go.RowKit

def StrsAt (B : Nat) (w : World) (v : Value) (n : Nat) (f : Nat → List UInt8) : Prop :=
  ∃ (a : Option Addr) (c : Nat), v = .slice a n c ∧ n ≤ c ∧ c ≤ 9223372036854775807 ∧ (0 < n → ∃ k o, a = some ⟨k, o, none⟩ ∧ k < B ∧ ∀ i, i < n → w.cell? ⟨k, o + i, none⟩ = some (.string (txt (f i))) ∧ (f i).length ≤ 9223372036854775807)
def BoolsAt (B : Nat) (w : World) (v : Value) (n : Nat) (g : Nat → Bool) : Prop :=
  ∃ (a : Option Addr) (c : Nat), v = .slice a n c ∧ n ≤ c ∧ c ≤ 9223372036854775807 ∧ (0 < n → ∃ k o, a = some ⟨k, o, none⟩ ∧ k < B ∧ ∀ i, i < n → w.cell? ⟨k, o + i, none⟩ = some (.bool (g i)))
section
variable {H : Type} {enc : TypeId × Value → H} {w : World} {base : Nat} {spare : Nat → Bool} {held : Bool}
/-- A slice of one-cell elements. -/
theorem slice_one {t e : TypeId} {fuel : Nat} {cs : List Value} {x : DataW H × List MemPlace} (ht : Tryd.prog.underlying t = some (.slice e)) (hC : Tryd.prog.cellsOf e = 1) (h : DataW.trod enc Tryd.prog w base spare held fuel t cs = some x) :
    ∃ (a : Option Addr) (len cap : Nat), cs = [.slice a len cap] ∧ len ≤ cap ∧ cap ≤ maxLen ∧ (0 < len → ∃ k o, a = some ⟨k, o, none⟩ ∧ k < w.heap.size ∧
      ∀ i, i < len → ∃ (v : Value) (y : DataW H × List MemPlace) (n : Nat), w.cell? ⟨k, o + i, none⟩ = some v ∧ DataW.trod enc Tryd.prog w base spare held n e [v] = some y) := by
  rcases open_slice ht h with ⟨hcs, _⟩ | ⟨a, len, cap, m, n, D, Pl, hcs, hb, hl, hm, hmm, hx, hi⟩
  · exact ⟨none, 0, 0, hcs, by omega, by unfold maxLen; omega, by omega⟩
  · have key : ∀ i, i < len → ∃ (v : Value) (y : DataW H × List MemPlace) (n : Nat), w.cell? (a.add i) = some v ∧ DataW.trod enc Tryd.prog w base spare held n e [v] = some y := fun i him => by
      obtain ⟨cs', hc, ht'⟩ := hi i (by rw [hmm]; split <;> omega)
      rw [hC] at hc
      obtain ⟨_, hcl, hat⟩ := World.cells?_some hc
      match cs', hcl, hat, ht' with
      | [v], _, hat, ht' =>
        have h0 := hat 0 (by omega)
        rw [Go.Deep.add_add, Nat.mul_one, Nat.add_zero] at h0
        exact ⟨v, _, _, h0, ht'⟩
    refine ⟨some a, len, cap, hcs, hl, hm, fun hpos => ?_⟩
    obtain ⟨v0, _, _, hc0, _⟩ := key 0 hpos
    have e0 := addr_add hc0
    refine ⟨a.block, a.off, ?_, ?_, fun i him => ?_⟩
    · have hs := World.cell?_spot hc0
      obtain ⟨bb, bo, bs⟩ := a
      simp [Addr.add] at hs
      subst hs
      rfl
    · have := World.block_lt_of_cell? w _ hc0
      rw [e0] at this
      exact this
    · obtain ⟨v, y, n, hc, hy⟩ := key i him
      rw [addr_add hc] at hc
      exact ⟨v, y, n, hc, hy⟩
theorem strs_at {fuel : Nat} {v : Value} {x : DataW H × List MemPlace} (h : DataW.trod enc Tryd.prog w base spare held fuel 29 [v] = some x) : ∃ n f, StrsAt w.heap.size w v n f := by
  obtain ⟨a, len, cap, hcs, hl, hm, hel⟩ := slice_one Tryd.underlying29 (by kernel_rfl) h
  simp at hcs
  subst hcs
  by_cases hp : 0 < len
  · obtain ⟨k, o, rfl, hk, hf⟩ := hel hp
    have hx : ∀ i, ∃ l : List UInt8, i < len → w.cell? ⟨k, o + i, none⟩ = some (.string (txt l)) ∧ l.length ≤ 9223372036854775807 := fun i => by
      by_cases hi : i < len
      · obtain ⟨u, y, n, hc, hy⟩ := hf i hi
        obtain ⟨s, e, _, hs⟩ := DataW.trod_string Tryd.underlying9 hy
        simp at e
        subst e
        refine ⟨s.data.toList, fun _ => ⟨by rw [txt_data]; exact hc, ?_⟩⟩
        rw [Array.length_toList, ByteArray.size_data]
        simpa [maxLen] using hs
      · exact ⟨[], fun h => absurd h hi⟩
    obtain ⟨f, hff⟩ := Classical.skolem.1 hx
    exact ⟨len, f, some ⟨k, o, none⟩, cap, rfl, hl, by simpa [maxLen] using hm, fun _ => ⟨k, o, rfl, hk, hff⟩⟩
  · exact ⟨len, fun _ => [], a, cap, rfl, hl, by simpa [maxLen] using hm, fun h => absurd h hp⟩
end

theorem txs_of {w : World} {v : Value} {n : Nat} {f : Nat → List UInt8} (h : StrsAt w.heap.size w v n f) : TxsAt w v ((List.range n).map f) ∧ ∀ x ∈ (List.range n).map f, 0 < n → x.length ≤ 9223372036854775807 := by
  obtain ⟨a, c, rfl, h1, h2, h3⟩ := h
  have hl : ((List.range n).map f).length = n := by simp
  refine ⟨⟨a, c, by rw [hl], by omega, h2, fun h0 => ?_⟩, fun x hx h0 => ?_⟩
  · obtain ⟨k, o, e, hk, hc⟩ := h3 (by omega)
    exact ⟨k, o, e, hk, fun i hi => by rw [(hc i (by omega)).1]; simp⟩
  · obtain ⟨k, o, e, hk, hc⟩ := h3 h0
    obtain ⟨i, hi, rfl⟩ := List.mem_map.1 hx
    exact (hc i (List.mem_range.1 hi)).2
theorem txs_in {H : Type} {enc : TypeId × Value → H} {w : World} {base : Nat} {spare : Nat → Bool} {held : Bool} {fuel : Nat} {v : Value} {x : DataW H × List MemPlace} (h : DataW.trod enc Tryd.prog w base spare held fuel 29 [v] = some x) :
    ∃ l, TxsAt w v l ∧ ∀ x ∈ l, x.length ≤ 9223372036854775807 := by
  obtain ⟨n, f, hs⟩ := strs_at h
  obtain ⟨h1, h2⟩ := txs_of hs
  exact ⟨_, h1, fun x hx => h2 x hx (by have := List.length_pos_of_mem hx; simpa using this)⟩
end Go.Proofs.YtfhmdeamhmjddaaDoor
