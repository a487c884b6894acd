/-
  AcceptPlays (layer 16): for every list of calls, the law answers true: call by call the acceptor answers what the document says, and has its state. No condition.
-/
import Derived.Test.YtfhmdeamhmjddaaPm20
import Derived.ProofKit
import Derived.Deep.Slices
import Derived.Deep.Fields
import Derived.ChangeSame
import Derived.OpenShut
import Derived.ShutString
import Derived.ChangeOld
/-
  How the list of calls of layer 16's statements reads in memory, the counters within 64 bits. No condition beyond those that each theorem states.
-/
set_option linter.unusedVariables false
set_option linter.unusedSimpArgs false
set_option maxRecDepth 100000
namespace Go.Proofs.Ytfhmdeamhmjddaa
open Go.ChangeShapes Go.WideShapes Go.Deep Go.RowKit
theorem lit_u64 {n : Int} (h : (Lit.int .u64 n).wf = true) : 0 ≤ n ∧ n < 18446744073709551616 := by
  simp only [Lit.wf, Bool.and_eq_true, decide_eq_true_eq] at h
  have h0 : IntKind.u64.min = 0 := by decide
  have h1 : IntKind.u64.max = 18446744073709551615 := by decide
  omega
theorem acts16c_at {H : Type} {enc : TypeId × Value → H} {w : World} {base : Nat} {spare : Nat → Bool} {held : Bool} {fuel : Nat} {v : Value} {x : DataW H × List MemPlace}
    (h : DataW.trod enc Try.prog w base spare held fuel 26 [v] = some x) : ∃ n, Acts16C w v n := by
  obtain ⟨a, len, cap, hcs, hl, hm, hel⟩ := slice_structs Try.underlying26 Try.underlying33 h
  simp at hcs
  subst hcs
  refine ⟨len, a, cap, rfl, hl, by simpa [maxLen] using hm, fun hpos => ?_⟩
  obtain ⟨b, rfl, hf⟩ := hel hpos
  have h9 : Try.prog.cellsOf 33 = 9 := by kernel_rfl
  rw [h9] at hf
  have c1 : Try.prog.cellsOf 3 = 1 := by kernel_rfl
  have c2 : Try.prog.cellsOf 31 = 2 := by kernel_rfl
  have c3 : Try.prog.cellsOf 9 = 1 := by kernel_rfl
  have c4 : Try.prog.cellsOf 29 = 1 := by kernel_rfl
  have hspot : b.spot = none ∧ b.block < w.heap.size := by
    obtain ⟨cs', hlen, hcell, _⟩ := hf 0 hpos
    obtain ⟨k0, k1, k2, k3, k4, k5, k6, k7, k8, rfl⟩ := nine hlen
    have hc : w.cell? (b.add 0) = some k0 := by have := hcell 0 (by omega); simpa using this
    have hs := World.cell?_spot hc
    have hb := World.block_lt_of_cell? w _ hc
    have e0 : b.add 0 = b := by unfold Addr.add; simp
    rw [e0] at hs hb
    exact ⟨hs, hb⟩
  refine ⟨b.block, b.off, by obtain ⟨bb, bo, bs⟩ := b; simp only at hspot; rw [hspot.1], hspot.2, fun i hi => ?_⟩
  obtain ⟨cs', hlen, hcell, hfld⟩ := hf i hi
  obtain ⟨k0, k1, k2, k3, k4, k5, k6, k7, k8, rfl⟩ := nine hlen
  obtain ⟨y0, n0, t0⟩ := hfld 0 _ rfl
  obtain ⟨y1, n1, t1⟩ := hfld 1 _ rfl
  obtain ⟨y2, n2, t2⟩ := hfld 2 _ rfl
  obtain ⟨y3, n3, t3⟩ := hfld 3 _ rfl
  obtain ⟨y4, n4, t4⟩ := hfld 4 _ rfl
  obtain ⟨y5, n5, t5⟩ := hfld 5 _ rfl
  obtain ⟨y6, n6, t6⟩ := hfld 6 _ rfl
  obtain ⟨y7, n7, t7⟩ := hfld 7 _ rfl
  simp only [List.getElem_toArray, List.getElem_cons_zero, List.getElem_cons_succ, c1, c2, c3, List.drop_zero, List.drop_succ_cons, List.take_succ_cons, List.take_zero] at t0 t1 t2 t3 t4 t5 t6 t7
  obtain ⟨z0, e0, _, _⟩ := DataW.trod_int Try.underlying3 t0
  obtain ⟨z1, e1, _, _⟩ := DataW.trod_int Try.underlying3 t1
  obtain ⟨z2, e2, _, _⟩ := DataW.trod_int Try.underlying3 t2
  obtain ⟨z3, e3, _, _⟩ := DataW.trod_int Try.underlying3 t3
  obtain ⟨z4, e4, _, _⟩ := DataW.trod_int Try.underlying3 t4
  obtain ⟨z5, e5, _, _⟩ := DataW.trod_int Try.underlying3 t5
  obtain ⟨s7, e7, _, hs7⟩ := DataW.trod_string Try.underlying9 t7
  obtain ⟨ys, n', hn', hy, hlen', hyl, hf6⟩ := DataW.trod_struct Try.underlying31 t6
  have u0 := hf6 0 _ rfl
  have u1 := hf6 1 _ rfl
  rw [List.getElem?_eq_getElem (by rw [hyl]; decide)] at u0 u1
  simp only [List.getElem_toArray, List.getElem_cons_zero, List.getElem_cons_succ, c1, c4, List.drop_zero, List.drop_succ_cons, List.take_succ_cons, List.take_zero] at u0 u1
  obtain ⟨z6, e6, _, hwf6⟩ := DataW.trod_int Try.underlying29 u0
  obtain ⟨z8, e8, _, _⟩ := DataW.trod_int Try.underlying3 u1
  simp at e0 e1 e2 e3 e4 e5 e6 e7 e8
  subst e0 e1 e2 e3 e4 e5 e6 e7 e8
  refine ⟨⟨z0, z1, z2, z3, z4, z5, ⟨z6, z8⟩, s7⟩, fun j hj => ?_, by simpa [maxLen] using hs7, (lit_u64 hwf6).1, (lit_u64 hwf6).2⟩
  have hc := hcell j hj
  have e : ([Value.int .i64 z0, .int .i64 z1, .int .i64 z2, .int .i64 z3, .int .i64 z4, .int .i64 z5, .int .u64 z6, .int .i64 z8, .string s7] : List Value)[j]? = (ActS.cells ⟨z0, z1, z2, z3, z4, z5, ⟨z6, z8⟩, s7⟩)[j]? := by simp [ActS.cells]
  rw [e] at hc
  have hv : ∃ u, (ActS.cells ⟨z0, z1, z2, z3, z4, z5, ⟨z6, z8⟩, s7⟩)[j]? = some u := ⟨_, Array.getElem?_eq_getElem (by simpa [ActS.cells] using hj)⟩
  obtain ⟨u, hu⟩ := hv
  rw [hu] at hc ⊢
  have ea := addr_add' hc
  rw [ea] at hc
  exact hc
end Go.Proofs.Ytfhmdeamhmjddaa

namespace Go.Proofs.Ytfhmdeamhmjddaa.acceptPlays
open Go.ChangeShapes Go.WideShapes Go.ChangeAt Go.RowKit Go.Deep
set_option linter.unusedVariables false
set_option linter.unusedSimpArgs false

theorem own : ownKnob Try.prog.godebug = none := by kernel_rfl
theorem laidOut : laidOutB Try.prog = true := by kernel_rfl

set_option maxRecDepth 100000 in
theorem lifted (os : Os) (started : os.Started) (H : Type) (enc : TypeId × Value → H) :
    ReturnsInHanded {} Try.checked os 6 .any (Rows.acceptPlaysSpec.pre6 enc Try.prog Try.f6 Rows.acceptPlaysRow.domain false) (Rows.acceptPlaysSpec.post enc Try.prog Try.f6 false true false false) := by
  refine returnsInHanded_of_change (C := Try.checked) own started (by kernel_rfl) Try.func6
    (ChangeSpec.witness6 (enc := enc) (C := Try.checked) false ⟨#[], #[.bool false, .slice none 0 0], []⟩ 8 (by kernel_rfl) (by kernel_rfl) (by kernel_rfl) (by kernel_rfl)) ?_
  intro W base args ds gs before hval0 hW hcnd _
  have hval : ∀ (j : Nat) t v, Try.f6.params[j]? = some t → args[j]? = some v → Value.okWide Try.prog W .any base t v := hval0
  have hW' := hW
  obtain ⟨p, q, hA0, hV, rfl, hfz, hnd⟩ := hW
  have hA : DataW.TrodAll enc Try.prog W 0 (fun _ => true) true Try.f6.params.toList args.toList ds p := hA0
  rw [Try.params6] at hA hval
  obtain ⟨v0, vs0, d0, ds0, p0, q0, hargs, rfl, rfl, h0, r0⟩ := trodAll_cons hA
  obtain ⟨v1, vs1, d1, ds1, p1, q1, rfl, rfl, rfl, h1, r1⟩ := trodAll_cons r0
  obtain ⟨rfl, rfl, rfl⟩ := trodAll_nil r1
  obtain rfl : args = #[v0, v1] := by cases args; simp_all
  obtain ⟨rfl, rfl⟩ := trodVars_none hV
  obtain ⟨b0, rfl, rfl, rfl⟩ := open_bool Try.underlying4 (hval 0 4 v0 rfl rfl) h0
  obtain ⟨a1, len1, cap1, rfl⟩ := okWide_slice Try.underlying26 (hval 1 26 v1 rfl rfl)
  have k1 := h1
  have lt1 : ∀ x ∈ p1, x.block < W.heap.size := by obtain ⟨m, hm⟩ := k1; exact DataW.trod_lt m _ _ _ hm
  obtain ⟨n, hacts⟩ : ∃ n, Acts16C W (.slice a1 len1 cap1) n := by
    obtain ⟨fuel, hf⟩ := h1
    exact acts16c_at hf
  clear hA0 hval0
  refine (plays16_law b0 _ n W hacts).mono fun e W' ⟨he, hu⟩ => ?_
  have bel : Below W.heap.size W W' := hu.below (Nat.le_refl _) (by simp)
  subst he
  exact ⟨_, rfl, _, _, _, [], _, [], hW', trodAll_mk1 (shut_bool Try.underlying4 _), (trodAll_cons_mk (shut_bool Try.underlying4 _) (trodAll_cons_mk (Below.trod laidOut (by kernel_rfl) (of_decide_eq_true (by kernel_rfl)) k1 bel lt1) trodAll_mk0)), rfl, bel.frame _, fun h => by cases h⟩

theorem over : Rows.acceptPlaysRow.holds Try.pinned (OpenSpec.ofChange Rows.acceptPlaysSpec) :=
  OpenClaim.holds_of_wide 6 Try.f6 rfl rfl rfl rfl rfl rfl rfl ⟨rfl, rfl, rfl, rfl, rfl⟩ rfl rfl rfl rfl rfl (by kernel_rfl) Try.func6 (by kernel_rfl)
    (of_decide_eq_true (by kernel_rfl)) (by unfold Func.isWrapper; first | (rw [if_pos (by decide +kernel)]; kernel_rfl) | (rw [if_neg (by decide +kernel)]; exact ⟨rfl, rfl⟩))
    (fun os started H enc _ => lifted os started H enc)

/-- The statement. -/
theorem proved : Rows.AcceptPlaysSaid := over
end Go.Proofs.Ytfhmdeamhmjddaa.acceptPlays
