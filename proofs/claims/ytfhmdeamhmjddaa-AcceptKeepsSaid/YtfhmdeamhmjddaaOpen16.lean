/-
  How the list of calls of layer 16's statements reads in memory. No condition beyond those that each theorem states.
-/
import Derived.Test.YtfhmdeamhmjddaaKeeps16
import Derived.ProofKit
import Derived.Deep.Slices
import Derived.Deep.Fields
import Derived.ChangeSame
set_option linter.unusedVariables false
set_option linter.unusedSimpArgs false
set_option maxRecDepth 100000
namespace Go.Proofs.Ytfhmdeamhmjddaa
open Go.ChangeShapes Go.WideShapes Go.Deep Go.RowKit
section
variable {H : Type} {enc : TypeId × Value → H} {P : Program} {w : World} {base : Nat} {spare : Nat → Bool} {held : Bool}

/-- A slice of structs: the cells of every element, and how each field reads. -/
theorem slice_structs {t e : TypeId} {fs : Array Field} {fuel : Nat} {cs : List Value} {x : DataW H × List MemPlace} (ht : P.underlying t = some (.slice e)) (he : P.underlying e = some (.struct fs))
    (h : DataW.trod enc P w base spare held fuel t cs = some x) :
    ∃ (a : Option Addr) (len cap : Nat), cs = [.slice a len cap] ∧ len ≤ cap ∧ cap ≤ maxLen ∧ (0 < len → ∃ b, a = some b ∧
      ∀ i, i < len → ∃ cs' : List Value, cs'.length = P.cellsOf e ∧ (∀ q, q < P.cellsOf e → w.cell? (b.add (i * P.cellsOf e + q)) = cs'[q]?) ∧
        ∀ (j : Nat) (f : Field), fs[j]? = some f → ∃ (y : DataW H × List MemPlace) (n : Nat), DataW.trod enc P w base spare held n f.type ((cs'.drop f.offset).take (P.cellsOf f.type)) = some y) := by
  rcases open_slice ht h with ⟨hcs, _⟩ | ⟨a, len, cap, m, n, D, Pl, hcs, hb, hl, hm, hmm, hx, hi⟩
  · exact ⟨none, 0, 0, hcs, by omega, by unfold maxLen; omega, by omega⟩
  · refine ⟨some a, len, cap, hcs, hl, hm, fun _ => ⟨a, rfl, fun i him => ?_⟩⟩
    obtain ⟨cs', hc, ht'⟩ := hi i (by rw [hmm]; split <;> omega)
    obtain ⟨ys, n', hn', hy, hlen, hyl, hf⟩ := DataW.trod_struct he ht'
    obtain ⟨_, hcl, hat⟩ := World.cells?_some hc
    refine ⟨cs', hlen, fun q hq => ?_, fun j f hj => ?_⟩
    · rw [← Go.Deep.add_add]; exact hat q hq
    · have h1 := hf j f hj
      have hjl : j < fs.size := (Array.getElem?_eq_some_iff.1 hj).1
      have hys : ys[j]? = some (ys[j]'(by omega)) := List.getElem?_eq_getElem (by omega)
      exact ⟨_, n', h1.trans hys⟩
theorem addr_add' {b : Addr} {n : Nat} {v : Value} (h : w.cell? (b.add n) = some v) : b.add n = ⟨b.block, b.off + n, none⟩ := by
  have hs := World.cell?_spot h
  unfold Addr.add at *
  split
  · rename_i h0
    rw [if_pos h0] at hs
    subst h0
    obtain ⟨bb, bo, bs⟩ := b
    simp only at hs
    subst hs
    rfl
  · rfl
theorem nine {α : Type} {l : List α} (h : l.length = 9) : ∃ c0 c1 c2 c3 c4 c5 c6 c7 c8, l = [c0, c1, c2, c3, c4, c5, c6, c7, c8] := by
  match l, h with
  | [c0, c1, c2, c3, c4, c5, c6, c7, c8], _ => exact ⟨c0, c1, c2, c3, c4, c5, c6, c7, c8, rfl⟩
end

theorem acts16_at {H : Type} {enc : TypeId × Value → H} {w : World} {base : Nat} {spare : Nat → Bool} {held : Bool} {fuel : Nat} {v : Value} {x : DataW H × List MemPlace}
    (h : DataW.trod enc Try.prog w base spare held fuel 26 [v] = some x) : ∃ n, Acts16At w v n := by
  obtain ⟨a, len, cap, hcs, hl, hm, hel⟩ := slice_structs Try.underlying26 Try.underlying33 h
  simp at hcs
  subst hcs
  refine ⟨len, a, cap, rfl, hl, by simpa [maxLen] using hm, fun hpos => ?_⟩
  obtain ⟨b, rfl, hf⟩ := hel hpos
  have h9 : Try.prog.cellsOf 33 = 9 := by kernel_rfl
  rw [h9] at hf
  have c1 : Try.prog.cellsOf 3 = 1 := by kernel_rfl
  have c2 : Try.prog.cellsOf 31 = 2 := by kernel_rfl
  have c3 : Try.prog.cellsOf 9 = 1 := by kernel_rfl
  have c4 : Try.prog.cellsOf 29 = 1 := by kernel_rfl
  have hspot : b.spot = none ∧ b.block < w.heap.size := by
    obtain ⟨cs', hlen, hcell, _⟩ := hf 0 hpos
    obtain ⟨k0, k1, k2, k3, k4, k5, k6, k7, k8, rfl⟩ := nine hlen
    have hc : w.cell? (b.add 0) = some k0 := by have := hcell 0 (by omega); simpa using this
    have hs := World.cell?_spot hc
    have hb := World.block_lt_of_cell? w _ hc
    have e0 : b.add 0 = b := by unfold Addr.add; simp
    rw [e0] at hs hb
    exact ⟨hs, hb⟩
  refine ⟨b.block, b.off, by obtain ⟨bb, bo, bs⟩ := b; simp only at hspot; rw [hspot.1], hspot.2, fun i hi => ?_⟩
  obtain ⟨cs', hlen, hcell, hfld⟩ := hf i hi
  obtain ⟨k0, k1, k2, k3, k4, k5, k6, k7, k8, rfl⟩ := nine hlen
  obtain ⟨y0, n0, t0⟩ := hfld 0 _ rfl
  obtain ⟨y1, n1, t1⟩ := hfld 1 _ rfl
  obtain ⟨y2, n2, t2⟩ := hfld 2 _ rfl
  obtain ⟨y3, n3, t3⟩ := hfld 3 _ rfl
  obtain ⟨y4, n4, t4⟩ := hfld 4 _ rfl
  obtain ⟨y5, n5, t5⟩ := hfld 5 _ rfl
  obtain ⟨y6, n6, t6⟩ := hfld 6 _ rfl
  obtain ⟨y7, n7, t7⟩ := hfld 7 _ rfl
  simp only [List.getElem_toArray, List.getElem_cons_zero, List.getElem_cons_succ, c1, c2, c3, List.drop_zero, List.drop_succ_cons, List.take_succ_cons, List.take_zero] at t0 t1 t2 t3 t4 t5 t6 t7
  obtain ⟨z0, e0, _, _⟩ := DataW.trod_int Try.underlying3 t0
  obtain ⟨z1, e1, _, _⟩ := DataW.trod_int Try.underlying3 t1
  obtain ⟨z2, e2, _, _⟩ := DataW.trod_int Try.underlying3 t2
  obtain ⟨z3, e3, _, _⟩ := DataW.trod_int Try.underlying3 t3
  obtain ⟨z4, e4, _, _⟩ := DataW.trod_int Try.underlying3 t4
  obtain ⟨z5, e5, _, _⟩ := DataW.trod_int Try.underlying3 t5
  obtain ⟨s7, e7, _, hs7⟩ := DataW.trod_string Try.underlying9 t7
  obtain ⟨ys, n', hn', hy, hlen', hyl, hf6⟩ := DataW.trod_struct Try.underlying31 t6
  have u0 := hf6 0 _ rfl
  have u1 := hf6 1 _ rfl
  rw [List.getElem?_eq_getElem (by rw [hyl]; decide)] at u0 u1
  simp only [List.getElem_toArray, List.getElem_cons_zero, List.getElem_cons_succ, c1, c4, List.drop_zero, List.drop_succ_cons, List.take_succ_cons, List.take_zero] at u0 u1
  obtain ⟨z6, e6, _, _⟩ := DataW.trod_int Try.underlying29 u0
  obtain ⟨z8, e8, _, _⟩ := DataW.trod_int Try.underlying3 u1
  simp at e0 e1 e2 e3 e4 e5 e6 e7 e8
  subst e0 e1 e2 e3 e4 e5 e6 e7 e8
  refine ⟨⟨z0, z1, z2, z3, z4, z5, ⟨z6, z8⟩, s7⟩, fun j hj => ?_, by simpa [maxLen] using hs7⟩
  have hc := hcell j hj
  have e : ([Value.int .i64 z0, .int .i64 z1, .int .i64 z2, .int .i64 z3, .int .i64 z4, .int .i64 z5, .int .u64 z6, .int .i64 z8, .string s7] : List Value)[j]? = (ActS.cells ⟨z0, z1, z2, z3, z4, z5, ⟨z6, z8⟩, s7⟩)[j]? := by simp [ActS.cells]
  rw [e] at hc
  have hv : ∃ u, (ActS.cells ⟨z0, z1, z2, z3, z4, z5, ⟨z6, z8⟩, s7⟩)[j]? = some u := ⟨_, Array.getElem?_eq_getElem (by simpa [ActS.cells] using hj)⟩
  obtain ⟨u, hu⟩ := hv
  rw [hu] at hc ⊢
  have ea := addr_add' hc
  rw [ea] at hc
  exact hc
end Go.Proofs.Ytfhmdeamhmjddaa
