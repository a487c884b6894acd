/-
  TwinSpoilt (layer 12): for every list of texts, and every byte of either file that is another one, the law answers true: nothing is lost. No condition.
-/
import Derived.Test.YtjaoiaknglnomaaSpoilt12
import Derived.Test.YtjaoiaknglnomaaOpen
import Derived.OpenShut
import Derived.ShutString
import Derived.ChangeOld
import Derived.Lib.SmallJoins
namespace Go.Proofs.Ytjaoiaknglnomaa.twinSpoilt
open Go.ChangeShapes Go.WideShapes Go.ChangeAt Go.RowKit Go.Deep Go.Joins
set_option linter.unusedVariables false
set_option linter.unusedSimpArgs false

theorem own : ownKnob Try.prog.godebug = none := by kernel_rfl
theorem laidOut : laidOutB Try.prog = true := by kernel_rfl

section
variable {H : Type} {enc : TypeId × Value → H} {w : World} {base : Nat} {spare : Nat → Bool} {held : Bool}
/-- A slice of one-cell elements. -/
theorem slice_one {t e : TypeId} {fuel : Nat} {cs : List Value} {x : DataW H × List MemPlace} (ht : Try.prog.underlying t = some (.slice e)) (hC : Try.prog.cellsOf e = 1) (h : DataW.trod enc Try.prog w base spare held fuel t cs = some x) :
    ∃ (a : Option Addr) (len cap : Nat), cs = [.slice a len cap] ∧ len ≤ cap ∧ cap ≤ maxLen ∧ (0 < len → ∃ k o, a = some ⟨k, o, none⟩ ∧ k < w.heap.size ∧
      ∀ i, i < len → ∃ (v : Value) (y : DataW H × List MemPlace) (n : Nat), w.cell? ⟨k, o + i, none⟩ = some v ∧ DataW.trod enc Try.prog w base spare held n e [v] = some y) := by
  rcases open_slice ht h with ⟨hcs, _⟩ | ⟨a, len, cap, m, n, D, Pl, hcs, hb, hl, hm, hmm, hx, hi⟩
  · exact ⟨none, 0, 0, hcs, by omega, by unfold maxLen; omega, by omega⟩
  · have key : ∀ i, i < len → ∃ (v : Value) (y : DataW H × List MemPlace) (n : Nat), w.cell? (a.add i) = some v ∧ DataW.trod enc Try.prog w base spare held n e [v] = some y := fun i him => by
      obtain ⟨cs', hc, ht'⟩ := hi i (by rw [hmm]; split <;> omega)
      rw [hC] at hc
      obtain ⟨_, hcl, hat⟩ := World.cells?_some hc
      match cs', hcl, hat, ht' with
      | [v], _, hat, ht' =>
        have h0 := hat 0 (by omega)
        rw [Go.Deep.add_add, Nat.mul_one, Nat.add_zero] at h0
        exact ⟨v, _, _, h0, ht'⟩
    refine ⟨some a, len, cap, hcs, hl, hm, fun hpos => ?_⟩
    obtain ⟨v0, _, _, hc0, _⟩ := key 0 hpos
    have e0 := addr_add hc0
    refine ⟨a.block, a.off, ?_, ?_, fun i him => ?_⟩
    · have hs := World.cell?_spot hc0
      obtain ⟨bb, bo, bs⟩ := a
      simp [Addr.add] at hs
      subst hs
      rfl
    · have := World.block_lt_of_cell? w _ hc0
      rw [e0] at this
      exact this
    · obtain ⟨v, y, n, hc, hy⟩ := key i him
      rw [addr_add hc] at hc
      exact ⟨v, y, n, hc, hy⟩
theorem strs_at {fuel : Nat} {v : Value} {x : DataW H × List MemPlace} (h : DataW.trod enc Try.prog w base spare held fuel 60 [v] = some x) : ∃ n f, StrsAt w.heap.size w v n f := by
  obtain ⟨a, len, cap, hcs, hl, hm, hel⟩ := slice_one Try.underlying60 (by kernel_rfl) h
  simp at hcs
  subst hcs
  by_cases hp : 0 < len
  · obtain ⟨k, o, rfl, hk, hf⟩ := hel hp
    have hx : ∀ i, ∃ l : List UInt8, i < len → w.cell? ⟨k, o + i, none⟩ = some (.string (txt l)) ∧ l.length ≤ 9223372036854775807 := fun i => by
      by_cases hi : i < len
      · obtain ⟨u, y, n, hc, hy⟩ := hf i hi
        obtain ⟨s, e, _, hs⟩ := DataW.trod_string Try.underlying9 hy
        simp at e
        subst e
        refine ⟨s.data.toList, fun _ => ⟨by rw [txt_data]; exact hc, ?_⟩⟩
        rw [Array.length_toList, ByteArray.size_data]
        simpa [maxLen] using hs
      · exact ⟨[], fun h => absurd h hi⟩
    obtain ⟨f, hff⟩ := Classical.skolem.1 hx
    exact ⟨len, f, some ⟨k, o, none⟩, cap, rfl, hl, by simpa [maxLen] using hm, fun _ => ⟨k, o, rfl, hk, hff⟩⟩
  · exact ⟨len, fun _ => [], a, cap, rfl, hl, by simpa [maxLen] using hm, fun h => absurd h hp⟩
end

set_option maxRecDepth 100000 in
theorem lifted (os : Os) (started : os.Started) (H : Type) (enc : TypeId × Value → H) :
    ReturnsInHanded {} Try.checked os 7 .any (Rows.twinSpoiltSpec.pre6 enc Try.prog Try.f7 Rows.twinSpoiltRow.domain false) (Rows.twinSpoiltSpec.post enc Try.prog Try.f7 false true false false) := by
  refine returnsInHanded_of_change (C := Try.checked) own started (by kernel_rfl) Try.func7
    (ChangeSpec.witness6 (enc := enc) (C := Try.checked) false ⟨#[], #[.agg #[.slice none 0 0, .bool false, .int .i64 0, .int .u8 0]], []⟩ 8 (by kernel_rfl) (by kernel_rfl) (by kernel_rfl) (by kernel_rfl)) ?_
  intro W base args ds gs before hval0 hW hcnd _
  have hval : ∀ (j : Nat) t v, Try.f7.params[j]? = some t → args[j]? = some v → Value.okWide Try.prog W .any base t v := hval0
  have hW' := hW
  obtain ⟨p, q, hA0, hV, rfl, hfz, hnd⟩ := hW
  have hA : DataW.TrodAll enc Try.prog W 0 (fun _ => true) true Try.f7.params.toList args.toList ds p := hA0
  rw [Try.params7] at hA hval
  obtain ⟨v0, vs0, d0, ds0, p0, q0, hargs, rfl, rfl, h0, r0⟩ := trodAll_cons hA
  obtain ⟨rfl, rfl, rfl⟩ := trodAll_nil r0
  obtain rfl : args = #[v0] := by cases args; simp_all
  obtain ⟨rfl, rfl⟩ := trodVars_none hV
  have k0 := h0
  have lt0 : ∀ x ∈ p0, x.block < W.heap.size := by obtain ⟨m, hm⟩ := k0; exact DataW.trod_lt m _ _ _ hm
  obtain ⟨u0, u1, u2, u3, y0, y1, y2, y3, n, rfl, _, _, t0, t1, t2, t3⟩ := open_agg4 Try.underlying62 (by kernel_rfl) (by kernel_rfl) (hval 0 62 v0 rfl rfl) h0
  obtain ⟨n1, f, hs1⟩ : ∃ n f, StrsAt W.heap.size W u0 n f := strs_at t0
  obtain ⟨z1, e1, _⟩ := DataW.trod_bool Try.underlying4 t1
  obtain ⟨z2, e2, _, _⟩ := DataW.trod_int Try.underlying3 t2
  obtain ⟨z3, e3, _, hr3⟩ := DataW.trod_int Try.underlying5 t3
  simp at e1 e2 e3
  subst e1 e2 e3
  obtain ⟨x, rfl⟩ : ∃ x : UInt8, z3 = (x.toNat : Int) := ⟨UInt8.ofNat z3.toNat, by
    have h := hr3
    simp only [Lit.wf, Bool.and_eq_true, decide_eq_true_eq] at h
    have h1 : (0 : Int) ≤ z3 := h.1
    have h2 : z3 ≤ 255 := h.2
    rw [UInt8.toNat_ofNat']
    omega⟩
  clear hA0 hval0
  refine (spoilt_law _ n1 f z1 z2 x W hs1).mono fun e W' ⟨he, hu⟩ => ?_
  have bel : Below W.heap.size W W' := hu.below (Nat.le_refl _) (by simp)
  subst he
  exact ⟨_, rfl, _, _, _, [], _, [], hW', trodAll_mk1 (shut_bool Try.underlying4 _), (trodAll_cons_mk (Below.trod laidOut (by kernel_rfl) (of_decide_eq_true (by kernel_rfl)) k0 bel lt0) trodAll_mk0), rfl, bel.frame _, fun h => by cases h⟩

theorem over : Rows.twinSpoiltRow.holds Try.pinned (OpenSpec.ofChange Rows.twinSpoiltSpec) :=
  OpenClaim.holds_of_wide 7 Try.f7 rfl rfl rfl rfl rfl rfl rfl ⟨rfl, rfl, rfl, rfl, rfl⟩ rfl rfl rfl rfl rfl (by kernel_rfl) Try.func7 (by kernel_rfl)
    (of_decide_eq_true (by kernel_rfl)) (by unfold Func.isWrapper; first | (rw [if_pos (by decide +kernel)]; kernel_rfl) | (rw [if_neg (by decide +kernel)]; exact ⟨rfl, rfl⟩))
    (fun os started H enc _ => lifted os started H enc)

/-- The statement. -/
theorem proved : Rows.TwinSpoiltSaid := over
end Go.Proofs.Ytjaoiaknglnomaa.twinSpoilt
