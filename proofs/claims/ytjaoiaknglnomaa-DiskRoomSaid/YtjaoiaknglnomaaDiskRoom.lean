/-
  DiskRoom (layer 11): for every list of calls and every room, the law answers true: never more bytes are occupied than the room permits. No condition.
-/
import Derived.Test.YtjaoiaknglnomaaRoom11
import Derived.Test.YtjaoiaknglnomaaOpen
import Derived.OpenShut
import Derived.ShutString
import Derived.ChangeOld
namespace Go.Proofs.Ytjaoiaknglnomaa.diskRoom
open Go.ChangeShapes Go.WideShapes Go.ChangeAt Go.RowKit Go.Deep
set_option linter.unusedVariables false
set_option linter.unusedSimpArgs false

theorem own : ownKnob Try.prog.godebug = none := by kernel_rfl
theorem laidOut : laidOutB Try.prog = true := by kernel_rfl

/-- The list of calls, as it reads in memory. -/
theorem acts_at {H : Type} {enc : TypeId × Value → H} {w : World} {base : Nat} {spare : Nat → Bool} {held : Bool} {fuel : Nat} {v : Value} {x : DataW H × List MemPlace}
    (h : DataW.trod enc Try.prog w base spare held fuel 22 [v] = some x) : ∃ n, ActsAt w.heap.size w v n := by
  obtain ⟨a, len, cap, hcs, hl, hm, hel⟩ := slice_fields Try.underlying22 Try.underlying34 (by kernel_rfl) (by kernel_rfl) h
  simp at hcs
  subst hcs
  refine ⟨len, a, cap, rfl, hl, by simpa [maxLen] using hm, fun hpos => ?_⟩
  obtain ⟨b, rfl, hf⟩ := hel hpos
  have cell : ∀ i, i < len → ∀ (j : Nat) (f : Field), ((Try.prog.underlying 34).bind fun | .struct fs => fs[j]? | _ => none) = some f → ∃ (u : Value) (y : DataW H × List MemPlace) (n : Nat), w.cell? ⟨b.block, b.off + (i * 5 + j), none⟩ = some u ∧ DataW.trod enc Try.prog w base spare held n f.type [u] = some y := by
    intro i hi j f hj
    rw [Try.underlying34] at hj
    obtain ⟨u, y, n, hc, hy⟩ := hf i hi j f hj
    exact ⟨u, y, n, by have h2 := hc; rw [addr_add hc] at h2; exact h2, hy⟩
  refine ⟨b.block, b.off, ?_, ?_, fun i hi => ?_⟩
  · obtain ⟨u, y, n, hc, _⟩ := hf 0 hpos 0 _ rfl
    have hs := World.cell?_spot hc
    obtain ⟨bb, bo, bs⟩ := b
    simp [Addr.add] at hs
    subst hs
    rfl
  · obtain ⟨u, y, n, hc, _⟩ := cell 0 hpos 0 _ (by rw [Try.underlying34]; rfl)
    have := World.block_lt_of_cell? w _ hc
    exact this
  · obtain ⟨u0, y0, n0, c0, t0⟩ := cell i hi 0 _ (by rw [Try.underlying34]; rfl)
    obtain ⟨u1, y1, n1, c1, t1⟩ := cell i hi 1 _ (by rw [Try.underlying34]; rfl)
    obtain ⟨u2, y2, n2, c2, t2⟩ := cell i hi 2 _ (by rw [Try.underlying34]; rfl)
    obtain ⟨u3, y3, n3, c3, t3⟩ := cell i hi 3 _ (by rw [Try.underlying34]; rfl)
    obtain ⟨u4, y4, n4, c4, t4⟩ := cell i hi 4 _ (by rw [Try.underlying34]; rfl)
    obtain ⟨z0, e0, _, _⟩ := DataW.trod_int Try.underlying3 t0
    obtain ⟨z1, e1, _, _⟩ := DataW.trod_int Try.underlying3 t1
    obtain ⟨z2, e2, _, _⟩ := DataW.trod_int Try.underlying3 t2
    obtain ⟨s3, e3, _, hs⟩ := DataW.trod_string Try.underlying9 t3
    obtain ⟨cs, hcs⟩ := ints_at Try.underlying32 Try.underlying3 (by kernel_rfl) t4
    simp at e0 e1 e2 e3
    subst e0 e1 e2 e3
    simp only [← Nat.add_assoc, Nat.add_zero] at c0 c1 c2 c3 c4
    exact ⟨(z0, z1, z2, s3, u4, cs), c0, c1, c2, c3, c4, by simpa [maxLen] using hs, hcs⟩

set_option maxRecDepth 100000 in
theorem lifted (os : Os) (started : os.Started) (H : Type) (enc : TypeId × Value → H) :
    ReturnsInHanded {} Try.checked os 4 .any (Rows.diskRoomSpec.pre6 enc Try.prog Try.f4 Rows.diskRoomRow.domain false) (Rows.diskRoomSpec.post enc Try.prog Try.f4 false true false false) := by
  refine returnsInHanded_of_change (C := Try.checked) own started (by kernel_rfl) Try.func4
    (ChangeSpec.witness6 (enc := enc) (C := Try.checked) false ⟨#[], #[.slice none 0 0, .int .i64 0], []⟩ 8 (by kernel_rfl) (by kernel_rfl) (by kernel_rfl) (by kernel_rfl)) ?_
  intro W base args ds gs before hval0 hW hcnd _
  have hval : ∀ (j : Nat) t v, Try.f4.params[j]? = some t → args[j]? = some v → Value.okWide Try.prog W .any base t v := hval0
  have hW' := hW
  obtain ⟨p, q, hA0, hV, rfl, hfz, hnd⟩ := hW
  have hA : DataW.TrodAll enc Try.prog W 0 (fun _ => true) true Try.f4.params.toList args.toList ds p := hA0
  rw [Try.params4] at hA hval
  obtain ⟨v0, vs0, d0, ds0, p0, q0, hargs, rfl, rfl, h0, r0⟩ := trodAll_cons hA
  obtain ⟨v1, vs1, d1, ds1, p1, q1, rfl, rfl, rfl, h1, r1⟩ := trodAll_cons r0
  obtain ⟨rfl, rfl, rfl⟩ := trodAll_nil r1
  obtain rfl : args = #[v0, v1] := by cases args; simp_all
  obtain ⟨rfl, rfl⟩ := trodVars_none hV
  obtain ⟨a0, len0, cap0, rfl⟩ := okWide_slice Try.underlying22 (hval 0 22 v0 rfl rfl)
  have k0 := h0
  have lt0 : ∀ x ∈ p0, x.block < W.heap.size := by obtain ⟨m, hm⟩ := k0; exact DataW.trod_lt m _ _ _ hm
  obtain ⟨n, hacts⟩ : ∃ n, ActsAt W.heap.size W (.slice a0 len0 cap0) n := by
    obtain ⟨fuel, hf⟩ := h0
    exact acts_at hf
  obtain ⟨a1, rfl, rfl, rfl, w1⟩ := open_int Try.underlying3 (hval 1 3 v1 rfl rfl) h1
  clear hA0 hval0
  refine (room_law _ n a1 W hacts).mono fun e W' ⟨he, hu⟩ => ?_
  have bel : Below W.heap.size W W' := hu.below (Nat.le_refl _) (by simp)
  subst he
  exact ⟨_, rfl, _, _, _, [], _, [], hW', trodAll_mk1 (shut_bool Try.underlying4 _), (trodAll_cons_mk (Below.trod laidOut (by kernel_rfl) (of_decide_eq_true (by kernel_rfl)) k0 bel lt0) (trodAll_cons_mk (shut_int Try.underlying3 w1) trodAll_mk0)), rfl, bel.frame _, fun h => by cases h⟩

theorem over : Rows.diskRoomRow.holds Try.pinned (OpenSpec.ofChange Rows.diskRoomSpec) :=
  OpenClaim.holds_of_wide 4 Try.f4 rfl rfl rfl rfl rfl rfl rfl ⟨rfl, rfl, rfl, rfl, rfl⟩ rfl rfl rfl rfl rfl (by kernel_rfl) Try.func4 (by kernel_rfl)
    (of_decide_eq_true (by kernel_rfl)) (by unfold Func.isWrapper; first | (rw [if_pos (by decide +kernel)]; kernel_rfl) | (rw [if_neg (by decide +kernel)]; exact ⟨rfl, rfl⟩))
    (fun os started H enc _ => lifted os started H enc)

/-- The statement. -/
theorem proved : Rows.DiskRoomSaid := over
end Go.Proofs.Ytjaoiaknglnomaa.diskRoom
