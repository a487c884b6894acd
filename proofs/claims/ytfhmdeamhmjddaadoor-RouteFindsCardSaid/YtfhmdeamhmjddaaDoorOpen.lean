/-
  How arguments that came in read in memory: slices of structs of one-cell fields, slices of whole numbers. No condition beyond those that each theorem states.
-/
import Derived.Test.YtfhmdeamhmjddaaDoorBase
import Derived.ProofKit
import Derived.Deep.Slices
import Derived.Deep.Fields
import Derived.ChangeSame
set_option linter.unusedVariables false
set_option linter.unusedSimpArgs false
namespace Go.Proofs.YtfhmdeamhmjddaaDoor
open Go.ChangeShapes Go.WideShapes Go.Deep Go.RowKit
section
variable {H : Type} {enc : TypeId × Value → H} {P : Program} {w : World} {base : Nat} {spare : Nat → Bool} {held : Bool}

/-- A slice of structs of one-cell fields: every field of every element. -/
theorem slice_fields {t e : TypeId} {fs : Array Field} {fuel : Nat} {cs : List Value} {x : DataW H × List MemPlace} (ht : P.underlying t = some (.slice e)) (he : P.underlying e = some (.struct fs))
    (hone : oneCellFields P fs = true) (hC : P.cellsOf e = fs.size) (h : DataW.trod enc P w base spare held fuel t cs = some x) :
    ∃ (a : Option Addr) (len cap : Nat), cs = [.slice a len cap] ∧ len ≤ cap ∧ cap ≤ maxLen ∧ (0 < len → ∃ b, a = some b ∧
      ∀ i, i < len → ∀ (j : Nat) (f : Field), fs[j]? = some f → ∃ (v : Value) (y : DataW H × List MemPlace) (n : Nat), w.cell? (b.add (i * fs.size + j)) = some v ∧ DataW.trod enc P w base spare held n f.type [v] = some y) := by
  rcases open_slice ht h with ⟨hcs, _⟩ | ⟨a, len, cap, m, n, D, Pl, hcs, hb, hl, hm, hmm, hx, hi⟩
  · exact ⟨none, 0, 0, hcs, by omega, by unfold maxLen; omega, by omega⟩
  · refine ⟨some a, len, cap, hcs, hl, hm, fun _ => ⟨a, rfl, fun i him j f hj => ?_⟩⟩
    obtain ⟨cs', hc, ht'⟩ := hi i (by rw [hmm]; split <;> omega)
    rw [hC] at hc
    obtain ⟨ys, n', hn', hy, hlen, hyl, hf⟩ := DataW.trod_struct he ht'
    obtain ⟨_, hcl, hat⟩ := World.cells?_some hc
    obtain ⟨ho, hk⟩ := hone_of hone j f hj
    have hjl : j < fs.size := (Array.getElem?_eq_some_iff.1 hj).1
    have hcell := hat j hjl
    have hv : cs'[j]? = some (cs'[j]'(by omega)) := List.getElem?_eq_getElem (by omega)
    have h1 := hf j f hj
    rw [ho, hk] at h1
    have hone' : (cs'.drop j).take 1 = [cs'[j]'(by omega)] := by
      rw [List.drop_eq_getElem_cons (by omega)]
      rfl
    rw [hone'] at h1
    have hys : ys[j]? = some (ys[j]'(by omega)) := List.getElem?_eq_getElem (by omega)
    refine ⟨cs'[j]'(by omega), ys[j]'(by omega), n', ?_, h1.trans hys⟩
    rw [← Go.Deep.add_add, hcell, hv]

theorem addr_add {b : Addr} {n : Nat} {v : Value} (h : w.cell? (b.add n) = some v) : b.add n = ⟨b.block, b.off + n, none⟩ := by
  have hs := World.cell?_spot h
  unfold Addr.add at *
  split
  · rename_i h0
    rw [if_pos h0] at hs
    subst h0
    obtain ⟨bb, bo, bs⟩ := b
    simp only at hs
    subst hs
    rfl
  · rfl

/-- A slice of ints reads as one, wherever its cells lie. -/
theorem ints_at {t e : TypeId} {fuel : Nat} {v : Value} {x : DataW H × List MemPlace} (ht : P.underlying t = some (.slice e)) (he : P.underlying e = some (.int .i64)) (hC : P.cellsOf e = 1)
    (h : DataW.trod enc P w base spare held fuel t [v] = some x) : ∃ cs, ∀ b, w.heap.size ≤ b → IntsAt b w v cs := by
  rcases open_ints ht he hC h with ⟨hcs, _⟩ | ⟨a, len, cap, zs, hcs, _, hl, hm, hz, _, hcell, hwz⟩
  · simp at hcs
    subst hcs
    exact ⟨[], fun b _ => ⟨none, 0, rfl, by simp, by omega, by simp⟩⟩
  · simp at hcs
    subst hcs
    have hzl : len ≤ zs.length := by
      have : (if spare a.block = true then cap else len) = zs.length := by first | exact hz.symm | exact hz | simpa using hz.symm
      rw [← this]; split <;> omega
    refine ⟨zs.take len, fun b hb => ⟨some a, cap, by simp [List.length_take, Nat.min_eq_left hzl], by simp [List.length_take]; omega, by simpa [maxLen] using hm, fun hne => ?_⟩⟩
    have h0 : 0 < len := by
      rcases Nat.eq_zero_or_pos len with e0 | e0
      · subst e0; simp at hne
      · exact e0
    have hc0 := hcell 0 (by omega)
    have e0 := addr_add hc0
    refine ⟨a.block, a.off, ?_, ?_, ?_, fun i hi => ?_⟩
    · have hs := World.cell?_spot hc0
      obtain ⟨bb, bo, bs⟩ := a
      simp [Addr.add] at hs
      subst hs
      rfl
    · have := World.block_lt_of_cell? w _ hc0
      rw [e0] at this
      simp only at this
      omega
    · have := World.block_lt_of_cell? w _ hc0
      rw [e0] at this
      exact this
    · simp only [List.length_take] at hi
      have hci := hcell i (by omega)
      rw [addr_add hci] at hci
      rw [hci]
      simp [List.getD, List.getElem?_take, show i < len by omega]
end
end Go.Proofs.YtfhmdeamhmjddaaDoor
