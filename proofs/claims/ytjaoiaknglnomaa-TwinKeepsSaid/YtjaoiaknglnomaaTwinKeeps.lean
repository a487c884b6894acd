/-
  TwinKeeps (layer 12): for every list of texts, every failing call and every crash the law answers true: the last whole text is there, or the next one. No condition.
-/
import Derived.Test.YtjaoiaknglnomaaKeeps12
import Derived.Test.YtjaoiaknglnomaaOpen
import Derived.OpenShut
import Derived.ShutString
import Derived.ChangeOld
namespace Go.Proofs.Ytjaoiaknglnomaa.twinKeeps
open Go.ChangeShapes Go.WideShapes Go.ChangeAt Go.RowKit Go.Deep
set_option linter.unusedVariables false
set_option linter.unusedSimpArgs false

theorem own : ownKnob Try.prog.godebug = none := by kernel_rfl
theorem laidOut : laidOutB Try.prog = true := by kernel_rfl

section
variable {H : Type} {enc : TypeId × Value → H} {w : World} {base : Nat} {spare : Nat → Bool} {held : Bool}
/-- A slice of one-cell elements. -/
theorem slice_one {t e : TypeId} {fuel : Nat} {cs : List Value} {x : DataW H × List MemPlace} (ht : Try.prog.underlying t = some (.slice e)) (hC : Try.prog.cellsOf e = 1) (h : DataW.trod enc Try.prog w base spare held fuel t cs = some x) :
    ∃ (a : Option Addr) (len cap : Nat), cs = [.slice a len cap] ∧ len ≤ cap ∧ cap ≤ maxLen ∧ (0 < len → ∃ k o, a = some ⟨k, o, none⟩ ∧ k < w.heap.size ∧
      ∀ i, i < len → ∃ (v : Value) (y : DataW H × List MemPlace) (n : Nat), w.cell? ⟨k, o + i, none⟩ = some v ∧ DataW.trod enc Try.prog w base spare held n e [v] = some y) := by
  rcases open_slice ht h with ⟨hcs, _⟩ | ⟨a, len, cap, m, n, D, Pl, hcs, hb, hl, hm, hmm, hx, hi⟩
  · exact ⟨none, 0, 0, hcs, by omega, by unfold maxLen; omega, by omega⟩
  · have key : ∀ i, i < len → ∃ (v : Value) (y : DataW H × List MemPlace) (n : Nat), w.cell? (a.add i) = some v ∧ DataW.trod enc Try.prog w base spare held n e [v] = some y := fun i him => by
      obtain ⟨cs', hc, ht'⟩ := hi i (by rw [hmm]; split <;> omega)
      rw [hC] at hc
      obtain ⟨_, hcl, hat⟩ := World.cells?_some hc
      match cs', hcl, hat, ht' with
      | [v], _, hat, ht' =>
        have h0 := hat 0 (by omega)
        rw [Go.Deep.add_add, Nat.mul_one, Nat.add_zero] at h0
        exact ⟨v, _, _, h0, ht'⟩
    refine ⟨some a, len, cap, hcs, hl, hm, fun hpos => ?_⟩
    obtain ⟨v0, _, _, hc0, _⟩ := key 0 hpos
    have e0 := addr_add hc0
    refine ⟨a.block, a.off, ?_, ?_, fun i him => ?_⟩
    · have hs := World.cell?_spot hc0
      obtain ⟨bb, bo, bs⟩ := a
      simp [Addr.add] at hs
      subst hs
      rfl
    · have := World.block_lt_of_cell? w _ hc0
      rw [e0] at this
      exact this
    · obtain ⟨v, y, n, hc, hy⟩ := key i him
      rw [addr_add hc] at hc
      exact ⟨v, y, n, hc, hy⟩
theorem strs_at {fuel : Nat} {v : Value} {x : DataW H × List MemPlace} (h : DataW.trod enc Try.prog w base spare held fuel 60 [v] = some x) : ∃ n f, StrsAt w.heap.size w v n f := by
  obtain ⟨a, len, cap, hcs, hl, hm, hel⟩ := slice_one Try.underlying60 (by kernel_rfl) h
  simp at hcs
  subst hcs
  by_cases hp : 0 < len
  · obtain ⟨k, o, rfl, hk, hf⟩ := hel hp
    have hx : ∀ i, ∃ l : List UInt8, i < len → w.cell? ⟨k, o + i, none⟩ = some (.string (txt l)) ∧ l.length ≤ 9223372036854775807 := fun i => by
      by_cases hi : i < len
      · obtain ⟨u, y, n, hc, hy⟩ := hf i hi
        obtain ⟨s, e, _, hs⟩ := DataW.trod_string Try.underlying9 hy
        simp at e
        subst e
        refine ⟨s.data.toList, fun _ => ⟨by rw [txt_data]; exact hc, ?_⟩⟩
        rw [Array.length_toList, ByteArray.size_data]
        simpa [maxLen] using hs
      · exact ⟨[], fun h => absurd h hi⟩
    obtain ⟨f, hff⟩ := Classical.skolem.1 hx
    exact ⟨len, f, some ⟨k, o, none⟩, cap, rfl, hl, by simpa [maxLen] using hm, fun _ => ⟨k, o, rfl, hk, hff⟩⟩
  · exact ⟨len, fun _ => [], a, cap, rfl, hl, by simpa [maxLen] using hm, fun h => absurd h hp⟩
end

set_option maxRecDepth 100000 in
theorem lifted (os : Os) (started : os.Started) (H : Type) (enc : TypeId × Value → H) :
    ReturnsInHanded {} Try.checked os 9 .any (Rows.twinKeepsSpec.pre6 enc Try.prog Try.f9 Rows.twinKeepsRow.domain false) (Rows.twinKeepsSpec.post enc Try.prog Try.f9 false true false false) := by
  refine returnsInHanded_of_change (C := Try.checked) own started (by kernel_rfl) Try.func9
    (ChangeSpec.witness6 (enc := enc) (C := Try.checked) false ⟨#[], #[.slice none 0 0, .int .i64 0, .slice none 0 0], []⟩ 8 (by kernel_rfl) (by kernel_rfl) (by kernel_rfl) (by kernel_rfl)) ?_
  intro W base args ds gs before hval0 hW hcnd _
  have hval : ∀ (j : Nat) t v, Try.f9.params[j]? = some t → args[j]? = some v → Value.okWide Try.prog W .any base t v := hval0
  have hW' := hW
  obtain ⟨p, q, hA0, hV, rfl, hfz, hnd⟩ := hW
  have hA : DataW.TrodAll enc Try.prog W 0 (fun _ => true) true Try.f9.params.toList args.toList ds p := hA0
  rw [Try.params9] at hA hval
  obtain ⟨v0, vs0, d0, ds0, p0, q0, hargs, rfl, rfl, h0, r0⟩ := trodAll_cons hA
  obtain ⟨v1, vs1, d1, ds1, p1, q1, rfl, rfl, rfl, h1, r1⟩ := trodAll_cons r0
  obtain ⟨v2, vs2, d2, ds2, p2, q2, rfl, rfl, rfl, h2, r2⟩ := trodAll_cons r1
  obtain ⟨rfl, rfl, rfl⟩ := trodAll_nil r2
  obtain rfl : args = #[v0, v1, v2] := by cases args; simp_all
  obtain ⟨rfl, rfl⟩ := trodVars_none hV
  obtain ⟨a0, len0, cap0, rfl⟩ := okWide_slice Try.underlying60 (hval 0 60 v0 rfl rfl)
  obtain ⟨a2, len2, cap2, rfl⟩ := okWide_slice Try.underlying32 (hval 2 32 v2 rfl rfl)
  obtain ⟨z1, rfl, _⟩ := okWide_int Try.underlying3 (hval 1 3 v1 rfl rfl)
  have k0 := h0
  have k1 := h1
  have k2 := h2
  have lt0 : ∀ x ∈ p0, x.block < W.heap.size := by obtain ⟨m, hm⟩ := k0; exact DataW.trod_lt m _ _ _ hm
  have lt1 : ∀ x ∈ p1, x.block < W.heap.size := by obtain ⟨m, hm⟩ := k1; exact DataW.trod_lt m _ _ _ hm
  have lt2 : ∀ x ∈ p2, x.block < W.heap.size := by obtain ⟨m, hm⟩ := k2; exact DataW.trod_lt m _ _ _ hm
  obtain ⟨n1, f, hs1⟩ : ∃ n f, StrsAt W.heap.size W (.slice a0 len0 cap0) n f := by
    obtain ⟨fuel, hf⟩ := h0
    exact strs_at hf
  obtain ⟨cs, hcs⟩ : ∃ cs, ∀ b, W.heap.size ≤ b → IntsAt b W (.slice a2 len2 cap2) cs := by
    obtain ⟨fuel, hf⟩ := h2
    exact ints_at Try.underlying32 Try.underlying3 (by kernel_rfl) hf
  clear hA0 hval0
  refine (keeps12_law _ _ n1 f z1 cs W hs1 hcs).mono fun e W' ⟨he, hu⟩ => ?_
  have bel : Below W.heap.size W W' := hu.below (Nat.le_refl _) (by simp)
  subst he
  exact ⟨_, rfl, _, _, _, [], _, [], hW', trodAll_mk1 (shut_bool Try.underlying4 _), (trodAll_cons_mk (Below.trod laidOut (by kernel_rfl) (of_decide_eq_true (by kernel_rfl)) k0 bel lt0) (trodAll_cons_mk (Below.trod laidOut (by kernel_rfl) (of_decide_eq_true (by kernel_rfl)) k1 bel lt1) (trodAll_cons_mk (Below.trod laidOut (by kernel_rfl) (of_decide_eq_true (by kernel_rfl)) k2 bel lt2) trodAll_mk0))), rfl, bel.frame _, fun h => by cases h⟩

theorem over : Rows.twinKeepsRow.holds Try.pinned (OpenSpec.ofChange Rows.twinKeepsSpec) :=
  OpenClaim.holds_of_wide 9 Try.f9 rfl rfl rfl rfl rfl rfl rfl ⟨rfl, rfl, rfl, rfl, rfl⟩ rfl rfl rfl rfl rfl (by kernel_rfl) Try.func9 (by kernel_rfl)
    (of_decide_eq_true (by kernel_rfl)) (by unfold Func.isWrapper; first | (rw [if_pos (by decide +kernel)]; kernel_rfl) | (rw [if_neg (by decide +kernel)]; exact ⟨rfl, rfl⟩))
    (fun os started H enc _ => lifted os started H enc)

/-- The statement. -/
theorem proved : Rows.TwinKeepsSaid := over
end Go.Proofs.Ytjaoiaknglnomaa.twinKeeps
