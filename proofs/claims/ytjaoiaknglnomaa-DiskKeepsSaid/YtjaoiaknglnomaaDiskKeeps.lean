/-
  DiskKeeps (layer 11): for all lists of calls and every file number, the law answers true: what was synced is there behind a crash. No condition.
-/
import Derived.Test.YtjaoiaknglnomaaKeeps11
import Derived.Test.YtjaoiaknglnomaaOpen
import Derived.OpenShut
import Derived.ShutString
import Derived.ChangeOld
namespace Go.Proofs.Ytjaoiaknglnomaa.diskKeeps
open Go.ChangeShapes Go.WideShapes Go.ChangeAt Go.RowKit Go.Deep
set_option linter.unusedVariables false
set_option linter.unusedSimpArgs false

theorem own : ownKnob Try.prog.godebug = none := by kernel_rfl
theorem laidOut : laidOutB Try.prog = true := by kernel_rfl

/-- The list of calls, as it reads in memory. -/
theorem acts_at {H : Type} {enc : TypeId × Value → H} {w : World} {base : Nat} {spare : Nat → Bool} {held : Bool} {fuel : Nat} {v : Value} {x : DataW H × List MemPlace}
    (h : DataW.trod enc Try.prog w base spare held fuel 22 [v] = some x) : ∃ n, ActsAt w.heap.size w v n := by
  obtain ⟨a, len, cap, hcs, hl, hm, hel⟩ := slice_fields Try.underlying22 Try.underlying34 (by kernel_rfl) (by kernel_rfl) h
  simp at hcs
  subst hcs
  refine ⟨len, a, cap, rfl, hl, by simpa [maxLen] using hm, fun hpos => ?_⟩
  obtain ⟨b, rfl, hf⟩ := hel hpos
  have cell : ∀ i, i < len → ∀ (j : Nat) (f : Field), ((Try.prog.underlying 34).bind fun | .struct fs => fs[j]? | _ => none) = some f → ∃ (u : Value) (y : DataW H × List MemPlace) (n : Nat), w.cell? ⟨b.block, b.off + (i * 5 + j), none⟩ = some u ∧ DataW.trod enc Try.prog w base spare held n f.type [u] = some y := by
    intro i hi j f hj
    rw [Try.underlying34] at hj
    obtain ⟨u, y, n, hc, hy⟩ := hf i hi j f hj
    exact ⟨u, y, n, by have h2 := hc; rw [addr_add hc] at h2; exact h2, hy⟩
  refine ⟨b.block, b.off, ?_, ?_, fun i hi => ?_⟩
  · obtain ⟨u, y, n, hc, _⟩ := hf 0 hpos 0 _ rfl
    have hs := World.cell?_spot hc
    obtain ⟨bb, bo, bs⟩ := b
    simp [Addr.add] at hs
    subst hs
    rfl
  · obtain ⟨u, y, n, hc, _⟩ := cell 0 hpos 0 _ (by rw [Try.underlying34]; rfl)
    have := World.block_lt_of_cell? w _ hc
    exact this
  · obtain ⟨u0, y0, n0, c0, t0⟩ := cell i hi 0 _ (by rw [Try.underlying34]; rfl)
    obtain ⟨u1, y1, n1, c1, t1⟩ := cell i hi 1 _ (by rw [Try.underlying34]; rfl)
    obtain ⟨u2, y2, n2, c2, t2⟩ := cell i hi 2 _ (by rw [Try.underlying34]; rfl)
    obtain ⟨u3, y3, n3, c3, t3⟩ := cell i hi 3 _ (by rw [Try.underlying34]; rfl)
    obtain ⟨u4, y4, n4, c4, t4⟩ := cell i hi 4 _ (by rw [Try.underlying34]; rfl)
    obtain ⟨z0, e0, _, _⟩ := DataW.trod_int Try.underlying3 t0
    obtain ⟨z1, e1, _, _⟩ := DataW.trod_int Try.underlying3 t1
    obtain ⟨z2, e2, _, _⟩ := DataW.trod_int Try.underlying3 t2
    obtain ⟨s3, e3, _, hs⟩ := DataW.trod_string Try.underlying9 t3
    obtain ⟨cs, hcs⟩ := ints_at Try.underlying32 Try.underlying3 (by kernel_rfl) t4
    simp at e0 e1 e2 e3
    subst e0 e1 e2 e3
    simp only [← Nat.add_assoc, Nat.add_zero] at c0 c1 c2 c3 c4
    exact ⟨(z0, z1, z2, s3, u4, cs), c0, c1, c2, c3, c4, by simpa [maxLen] using hs, hcs⟩

set_option maxRecDepth 100000 in
theorem lifted (os : Os) (started : os.Started) (H : Type) (enc : TypeId × Value → H) :
    ReturnsInHanded {} Try.checked os 3 .any (Rows.diskKeepsSpec.pre6 enc Try.prog Try.f3 Rows.diskKeepsRow.domain false) (Rows.diskKeepsSpec.post enc Try.prog Try.f3 false true false false) := by
  refine returnsInHanded_of_change (C := Try.checked) own started (by kernel_rfl) Try.func3
    (ChangeSpec.witness6 (enc := enc) (C := Try.checked) false ⟨#[], #[.slice none 0 0, .slice none 0 0, .int .i64 0], []⟩ 8 (by kernel_rfl) (by kernel_rfl) (by kernel_rfl) (by kernel_rfl)) ?_
  intro W base args ds gs before hval0 hW hcnd _
  have hval : ∀ (j : Nat) t v, Try.f3.params[j]? = some t → args[j]? = some v → Value.okWide Try.prog W .any base t v := hval0
  have hW' := hW
  obtain ⟨p, q, hA0, hV, rfl, hfz, hnd⟩ := hW
  have hA : DataW.TrodAll enc Try.prog W 0 (fun _ => true) true Try.f3.params.toList args.toList ds p := hA0
  rw [Try.params3] at hA hval
  obtain ⟨v0, vs0, d0, ds0, p0, q0, hargs, rfl, rfl, h0, r0⟩ := trodAll_cons hA
  obtain ⟨v1, vs1, d1, ds1, p1, q1, rfl, rfl, rfl, h1, r1⟩ := trodAll_cons r0
  obtain ⟨v2, vs2, d2, ds2, p2, q2, rfl, rfl, rfl, h2, r2⟩ := trodAll_cons r1
  obtain ⟨rfl, rfl, rfl⟩ := trodAll_nil r2
  obtain rfl : args = #[v0, v1, v2] := by cases args; simp_all
  obtain ⟨rfl, rfl⟩ := trodVars_none hV
  obtain ⟨a0, len0, cap0, rfl⟩ := okWide_slice Try.underlying22 (hval 0 22 v0 rfl rfl)
  obtain ⟨a1, len1, cap1, rfl⟩ := okWide_slice Try.underlying22 (hval 1 22 v1 rfl rfl)
  have k0 := h0
  have k1 := h1
  have lt0 : ∀ x ∈ p0, x.block < W.heap.size := by obtain ⟨m, hm⟩ := k0; exact DataW.trod_lt m _ _ _ hm
  have lt1 : ∀ x ∈ p1, x.block < W.heap.size := by obtain ⟨m, hm⟩ := k1; exact DataW.trod_lt m _ _ _ hm
  obtain ⟨n, hacts⟩ : ∃ n, ActsAt W.heap.size W (.slice a0 len0 cap0) n := by
    obtain ⟨fuel, hf⟩ := h0
    exact acts_at hf
  obtain ⟨n1, hacts1⟩ : ∃ n, ActsAt W.heap.size W (.slice a1 len1 cap1) n := by
    obtain ⟨fuel, hf⟩ := h1
    exact acts_at hf
  obtain ⟨a2, rfl, rfl, rfl, w2⟩ := open_int Try.underlying3 (hval 2 3 v2 rfl rfl) h2
  clear hA0 hval0
  refine (keeps_law _ _ n n1 a2 W hacts hacts1).mono fun e W' ⟨he, hu⟩ => ?_
  have bel : Below W.heap.size W W' := hu.below (Nat.le_refl _) (by simp)
  subst he
  exact ⟨_, rfl, _, _, _, [], _, [], hW', trodAll_mk1 (shut_bool Try.underlying4 _), (trodAll_cons_mk (Below.trod laidOut (by kernel_rfl) (of_decide_eq_true (by kernel_rfl)) k0 bel lt0) (trodAll_cons_mk (Below.trod laidOut (by kernel_rfl) (of_decide_eq_true (by kernel_rfl)) k1 bel lt1) (trodAll_cons_mk (shut_int Try.underlying3 w2) trodAll_mk0))), rfl, bel.frame _, fun h => by cases h⟩

theorem over : Rows.diskKeepsRow.holds Try.pinned (OpenSpec.ofChange Rows.diskKeepsSpec) :=
  OpenClaim.holds_of_wide 3 Try.f3 rfl rfl rfl rfl rfl rfl rfl ⟨rfl, rfl, rfl, rfl, rfl⟩ rfl rfl rfl rfl rfl (by kernel_rfl) Try.func3 (by kernel_rfl)
    (of_decide_eq_true (by kernel_rfl)) (by unfold Func.isWrapper; first | (rw [if_pos (by decide +kernel)]; kernel_rfl) | (rw [if_neg (by decide +kernel)]; exact ⟨rfl, rfl⟩))
    (fun os started H enc _ => lifted os started H enc)

/-- The statement. -/
theorem proved : Rows.DiskKeepsSaid := over
end Go.Proofs.Ytjaoiaknglnomaa.diskKeeps
