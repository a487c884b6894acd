/-
  chatelainelaw16.Is, walked: an acceptor in memory is the document's. Conditions: numbers that there may be.
-/
import Derived.Test.YtfhmdeamhmjddaaBm15
import Derived.Test.YtfhmdeamhmjddaaBm10
import Derived.ProofKit
import Derived.Deep.Slices
import Derived.Deep.Fields
import Derived.ChangeSame
set_option linter.unusedVariables false
set_option linter.unusedSimpArgs false
set_option maxRecDepth 100000
namespace Go.Proofs.Ytfhmdeamhmjddaa
open Go.RowKit

set_option maxHeartbeats 8000000 in
theorem is_any (B b : Nat) (l : Value) (d : AccS) (l2 : Value) (w : World) (h : AccAt B w b l d) (hr : RefRow B w l2 d.list) (hd' : d.small) :
    Calls Try.prog 25 #[.pointer (some ⟨b, 0, none⟩), .agg (d.cells l2)] w fun e w' => e = .returned (.bool true) ∧ Upd [] w w' := by
  obtain ⟨a2, c2, rfl, hc2, hcm2, -⟩ := own_open hr
  have hlen := hd'.above.few
  have hn0 := hd'.fine.node0
  have hn1 := hd'.fine.node1
  have e2 : ∃ W, w.alloc (.cells #[.bool d.wit, .int .u64 d.bal.c, .int .i64 d.bal.n, .int .i64 d.base, .slice a2 d.list.length c2, .int .i64 d.node, .int .i64 d.til] 54) = W ∧ Upd [] w W ∧ Blk W w.heap.size #[.bool d.wit, .int .u64 d.bal.c, .int .i64 d.bal.n, .int .i64 d.base, .slice a2 d.list.length c2, .int .i64 d.node, .int .i64 d.til] 54 := ⟨_, rfl, (Upd.refl _ _).alloc _, Blk.new _ _ _⟩
  have H := hd h
  have HR := hd hr
  rw [show d.cells (.slice a2 d.list.length c2) = #[.bool d.wit, .int .u64 d.bal.c, .int .i64 d.bal.n, .int .i64 d.base, .slice a2 d.list.length c2, .int .i64 d.node, .int .i64 d.til] from rfl]
  clear h hr hd'
  go_enter Try.func25, Try.ntmps25
  go_upto_region 1 with fail
  obtain ⟨W, hW, hu, hb⟩ := e2
  rw [hW]
  clear hW
  have hc0 : ∀ (y : Later [] W) o, y.world.cell? ⟨w.heap.size, o, none⟩ = #[.bool d.wit, .int .u64 d.bal.c, .int .i64 d.bal.n, .int .i64 d.base, .slice a2 d.list.length c2, .int .i64 d.node, .int .i64 d.til][o]? := fun y => (y.blk hb (by simp)).cell
  have HW0 := hd (fun y : Later [] W => (witness_any B b l d y.world (H.out.later (hu.trans y.upd))).mono (R' := fun e w' => e = .returned (.bool d.wit) ∧ Upd [] y.world w') (by rintro e w' ⟨rfl, rfl⟩; exact ⟨rfl, Upd.refl _ _⟩))
  have HP0 := hd (fun y : Later [] W => promised_any B b l d y.world (H.out.later (hu.trans y.upd)))
  have HB0 := hd (fun y : Later [] W => (base_any B b l d y.world (H.out.later (hu.trans y.upd))).mono (R' := fun e w' => e = .returned (.int .i64 d.base) ∧ Upd [] y.world w') (by rintro e w' ⟨rfl, rfl⟩; exact ⟨rfl, Upd.refl _ _⟩))
  unfold BalS.val at HP0
  have HBK := hd hb
  have HU := hd hu
  clear hb hu
  refine wp_region_later [] (by kernel_rfl) (by kernel_rfl) ?_
  repeat (go_big_quiet_step (first
    | (go_at_call 34; refine later_call (HW0.out _))
    | (go_at_call 14; refine later_call (HP0.out _))
    | (go_at_call 22; refine later_call (HB0.out _))))
  refine wpQuiet_nil ?_
  intro W1 hu1
  have HU1 := hd (HU.out.trans hu1)
  have HB1 := hd (HBK.out.upd hu1 (by simp))
  clear hc0 HW0 HP0 HB0 HBK HU hu1
  have hc := HB1.out.cell
  go_wp2_with fail
  refine (list_any B b l d W1 (H.out.later HU1.out) (by omega)).mono ?_
  rintro e W2 ⟨v, rfl, hu2, hv⟩
  obtain ⟨xa, xc, rfl, hxc, hxm, -⟩ := own_open hv
  have HU2 := hd (HU1.out.trans hu2)
  have HB2 := hd (HB1.out.upd hu2 (by simp))
  have HV2 := hd hv
  clear hc hu2 hv HU1 HB1
  have hc := HB2.out.cell
  have hlw := HB2.out.lt
  go_wp2_with fail
  go_loopw [44] (fun c wr => ∃ t : Nat, c = .int .i64 t ∧ t ≤ d.list.length ∧ Upd [] w wr ∧ Upd [] W2 wr) (fun c _ => d.list.length - (intOf c).toNat)
  case atStart => exact ⟨0, rfl, by omega, HU2.out, Upd.refl _ _⟩
  case round =>
    clear hc
    obtain ⟨t, rfl, ht, hu, huv⟩ := hrel
    have HUr := hd hu
    have HUv := hd huv
    by_cases htl : t < d.list.length
    · have htl' : (t : Int) < (d.list.length : Int) := by omega
      obtain ⟨g, cap', hge, hgB, hgl, -, hgc, hgz⟩ := own_cases (own_upd HR.out hu (by simp)) (by omega)
      simp only [Value.slice.injEq] at hge
      obtain ⟨rfl, -, rfl⟩ := hge
      obtain ⟨c0, c1, c2, c3⟩ := row_cells hgc t htl
      obtain ⟨g', cap2, hge, hgB', hgl', -, hgc', hgz'⟩ := own_cases (own_upd HV2.out huv (by simp)) (by omega)
      simp only [Value.slice.injEq] at hge
      obtain ⟨rfl, -, rfl⟩ := hge
      obtain ⟨k0, k1, k2, k3⟩ := row_cells hgc' t htl
      clear hgc hgc' hu huv
      generalize d.list[t]'_ = e at *
      obtain ⟨s, ⟨c, kk⟩, tx⟩ := e
      simp only at c0 c1 c2 c3 k0 k1 k2 k3
      have hy := Blk.new wr #[.int .i64 s, .int .u64 c, .int .i64 kk, .string tx] 102
      have hu' := (Upd.refl [] wr).alloc (.cells #[.int .i64 s, .int .u64 c, .int .i64 kk, .string tx] 102)
      go_upto_region 9 with fail
      generalize wr.alloc (.cells #[.int .i64 s, .int .u64 c, .int .i64 kk, .string tx] 102) = WA at *
      have hyc := hy.cell
      have hk : ∀ {o v}, wr.cell? ⟨g', o, none⟩ = some v → WA.cell? ⟨g', o, none⟩ = some v := fun h => (World.cell?_of_block (hu'.block g' hgl' (by simp))).trans h
      have q0 := hk k0
      have q1 := hk k1
      have q2 := hk k2
      have q3 := hk k3
      have HUA := hd hu'
      clear hk k0 k1 k2 k3 c0 c1 c2 c3 hu' hy
      go_quiet (fail)
      all_goals
        go_wp2_with fail
        go_roundw
        case rel => exact ⟨t + 1, by go_num, by omega, (HUr.out.trans HUA.out).trans (World.drewN_upd _ _), (HUv.out.trans HUA.out).trans (World.drewN_upd _ _)⟩
        case measure => simp [intOf]; omega
    · obtain rfl : t = d.list.length := by omega
      have hbb := HB2.out.upd huv (by simp)
      have hc := hbb.cell
      clear hu huv
      go_wp2_with fail
      refine (holder_any B b l d wr (H.out.later HUr.out) hn0 (by omega)).mono ?_
      rintro e W4 ⟨rfl, hu4⟩
      have hcc := (hbb.upd hu4 (by simp)).cell
      have HU4 := hd (HUr.out.trans hu4)
      clear hc hu4 hbb
      go_wp2_with fail
      go_ret
      exact ⟨rfl, HU4.out⟩
end Go.Proofs.Ytfhmdeamhmjddaa

/-
  How the list of calls of layer 16's statements reads in memory. No condition beyond those that each theorem states.
-/
set_option linter.unusedVariables false
set_option linter.unusedSimpArgs false
set_option maxRecDepth 100000
namespace Go.Proofs.Ytfhmdeamhmjddaa
open Go.ChangeShapes Go.WideShapes Go.Deep Go.RowKit
section
variable {H : Type} {enc : TypeId × Value → H} {P : Program} {w : World} {base : Nat} {spare : Nat → Bool} {held : Bool}

/-- A slice of structs: the cells of every element, and how each field reads. -/
theorem slice_structs {t e : TypeId} {fs : Array Field} {fuel : Nat} {cs : List Value} {x : DataW H × List MemPlace} (ht : P.underlying t = some (.slice e)) (he : P.underlying e = some (.struct fs))
    (h : DataW.trod enc P w base spare held fuel t cs = some x) :
    ∃ (a : Option Addr) (len cap : Nat), cs = [.slice a len cap] ∧ len ≤ cap ∧ cap ≤ maxLen ∧ (0 < len → ∃ b, a = some b ∧
      ∀ i, i < len → ∃ cs' : List Value, cs'.length = P.cellsOf e ∧ (∀ q, q < P.cellsOf e → w.cell? (b.add (i * P.cellsOf e + q)) = cs'[q]?) ∧
        ∀ (j : Nat) (f : Field), fs[j]? = some f → ∃ (y : DataW H × List MemPlace) (n : Nat), DataW.trod enc P w base spare held n f.type ((cs'.drop f.offset).take (P.cellsOf f.type)) = some y) := by
  rcases open_slice ht h with ⟨hcs, _⟩ | ⟨a, len, cap, m, n, D, Pl, hcs, hb, hl, hm, hmm, hx, hi⟩
  · exact ⟨none, 0, 0, hcs, by omega, by unfold maxLen; omega, by omega⟩
  · refine ⟨some a, len, cap, hcs, hl, hm, fun _ => ⟨a, rfl, fun i him => ?_⟩⟩
    obtain ⟨cs', hc, ht'⟩ := hi i (by rw [hmm]; split <;> omega)
    obtain ⟨ys, n', hn', hy, hlen, hyl, hf⟩ := DataW.trod_struct he ht'
    obtain ⟨_, hcl, hat⟩ := World.cells?_some hc
    refine ⟨cs', hlen, fun q hq => ?_, fun j f hj => ?_⟩
    · rw [← Go.Deep.add_add]; exact hat q hq
    · have h1 := hf j f hj
      have hjl : j < fs.size := (Array.getElem?_eq_some_iff.1 hj).1
      have hys : ys[j]? = some (ys[j]'(by omega)) := List.getElem?_eq_getElem (by omega)
      exact ⟨_, n', h1.trans hys⟩
theorem addr_add' {b : Addr} {n : Nat} {v : Value} (h : w.cell? (b.add n) = some v) : b.add n = ⟨b.block, b.off + n, none⟩ := by
  have hs := World.cell?_spot h
  unfold Addr.add at *
  split
  · rename_i h0
    rw [if_pos h0] at hs
    subst h0
    obtain ⟨bb, bo, bs⟩ := b
    simp only at hs
    subst hs
    rfl
  · rfl
theorem nine {α : Type} {l : List α} (h : l.length = 9) : ∃ c0 c1 c2 c3 c4 c5 c6 c7 c8, l = [c0, c1, c2, c3, c4, c5, c6, c7, c8] := by
  match l, h with
  | [c0, c1, c2, c3, c4, c5, c6, c7, c8], _ => exact ⟨c0, c1, c2, c3, c4, c5, c6, c7, c8, rfl⟩
end

theorem acts16_at {H : Type} {enc : TypeId × Value → H} {w : World} {base : Nat} {spare : Nat → Bool} {held : Bool} {fuel : Nat} {v : Value} {x : DataW H × List MemPlace}
    (h : DataW.trod enc Try.prog w base spare held fuel 26 [v] = some x) : ∃ n, Acts16At w v n := by
  obtain ⟨a, len, cap, hcs, hl, hm, hel⟩ := slice_structs Try.underlying26 Try.underlying33 h
  simp at hcs
  subst hcs
  refine ⟨len, a, cap, rfl, hl, by simpa [maxLen] using hm, fun hpos => ?_⟩
  obtain ⟨b, rfl, hf⟩ := hel hpos
  have h9 : Try.prog.cellsOf 33 = 9 := by kernel_rfl
  rw [h9] at hf
  have c1 : Try.prog.cellsOf 3 = 1 := by kernel_rfl
  have c2 : Try.prog.cellsOf 31 = 2 := by kernel_rfl
  have c3 : Try.prog.cellsOf 9 = 1 := by kernel_rfl
  have c4 : Try.prog.cellsOf 29 = 1 := by kernel_rfl
  have hspot : b.spot = none ∧ b.block < w.heap.size := by
    obtain ⟨cs', hlen, hcell, _⟩ := hf 0 hpos
    obtain ⟨k0, k1, k2, k3, k4, k5, k6, k7, k8, rfl⟩ := nine hlen
    have hc : w.cell? (b.add 0) = some k0 := by have := hcell 0 (by omega); simpa using this
    have hs := World.cell?_spot hc
    have hb := World.block_lt_of_cell? w _ hc
    have e0 : b.add 0 = b := by unfold Addr.add; simp
    rw [e0] at hs hb
    exact ⟨hs, hb⟩
  refine ⟨b.block, b.off, by obtain ⟨bb, bo, bs⟩ := b; simp only at hspot; rw [hspot.1], hspot.2, fun i hi => ?_⟩
  obtain ⟨cs', hlen, hcell, hfld⟩ := hf i hi
  obtain ⟨k0, k1, k2, k3, k4, k5, k6, k7, k8, rfl⟩ := nine hlen
  obtain ⟨y0, n0, t0⟩ := hfld 0 _ rfl
  obtain ⟨y1, n1, t1⟩ := hfld 1 _ rfl
  obtain ⟨y2, n2, t2⟩ := hfld 2 _ rfl
  obtain ⟨y3, n3, t3⟩ := hfld 3 _ rfl
  obtain ⟨y4, n4, t4⟩ := hfld 4 _ rfl
  obtain ⟨y5, n5, t5⟩ := hfld 5 _ rfl
  obtain ⟨y6, n6, t6⟩ := hfld 6 _ rfl
  obtain ⟨y7, n7, t7⟩ := hfld 7 _ rfl
  simp only [List.getElem_toArray, List.getElem_cons_zero, List.getElem_cons_succ, c1, c2, c3, List.drop_zero, List.drop_succ_cons, List.take_succ_cons, List.take_zero] at t0 t1 t2 t3 t4 t5 t6 t7
  obtain ⟨z0, e0, _, _⟩ := DataW.trod_int Try.underlying3 t0
  obtain ⟨z1, e1, _, _⟩ := DataW.trod_int Try.underlying3 t1
  obtain ⟨z2, e2, _, _⟩ := DataW.trod_int Try.underlying3 t2
  obtain ⟨z3, e3, _, _⟩ := DataW.trod_int Try.underlying3 t3
  obtain ⟨z4, e4, _, _⟩ := DataW.trod_int Try.underlying3 t4
  obtain ⟨z5, e5, _, _⟩ := DataW.trod_int Try.underlying3 t5
  obtain ⟨s7, e7, _, hs7⟩ := DataW.trod_string Try.underlying9 t7
  obtain ⟨ys, n', hn', hy, hlen', hyl, hf6⟩ := DataW.trod_struct Try.underlying31 t6
  have u0 := hf6 0 _ rfl
  have u1 := hf6 1 _ rfl
  rw [List.getElem?_eq_getElem (by rw [hyl]; decide)] at u0 u1
  simp only [List.getElem_toArray, List.getElem_cons_zero, List.getElem_cons_succ, c1, c4, List.drop_zero, List.drop_succ_cons, List.take_succ_cons, List.take_zero] at u0 u1
  obtain ⟨z6, e6, _, _⟩ := DataW.trod_int Try.underlying29 u0
  obtain ⟨z8, e8, _, _⟩ := DataW.trod_int Try.underlying3 u1
  simp at e0 e1 e2 e3 e4 e5 e6 e7 e8
  subst e0 e1 e2 e3 e4 e5 e6 e7 e8
  refine ⟨⟨z0, z1, z2, z3, z4, z5, ⟨z6, z8⟩, s7⟩, fun j hj => ?_, by simpa [maxLen] using hs7⟩
  have hc := hcell j hj
  have e : ([Value.int .i64 z0, .int .i64 z1, .int .i64 z2, .int .i64 z3, .int .i64 z4, .int .i64 z5, .int .u64 z6, .int .i64 z8, .string s7] : List Value)[j]? = (ActS.cells ⟨z0, z1, z2, z3, z4, z5, ⟨z6, z8⟩, s7⟩)[j]? := by simp [ActS.cells]
  rw [e] at hc
  have hv : ∃ u, (ActS.cells ⟨z0, z1, z2, z3, z4, z5, ⟨z6, z8⟩, s7⟩)[j]? = some u := ⟨_, Array.getElem?_eq_getElem (by simpa [ActS.cells] using hj)⟩
  obtain ⟨u, hu⟩ := hv
  rw [hu] at hc ⊢
  have ea := addr_add' hc
  rw [ea] at hc
  exact hc
end Go.Proofs.Ytfhmdeamhmjddaa

/-
  AcceptPlays of layer 16, walked: it answers true. Condition: the list of calls reads as one.
-/
set_option linter.unusedVariables false
set_option linter.unusedSimpArgs false
set_option maxRecDepth 100000
namespace Go.Proofs.Ytfhmdeamhmjddaa
open Go.RowKit

/-- A list of calls, as it reads in memory, the counters within 64 bits. -/
def Acts16C (w : World) (v : Value) (n : Nat) : Prop :=
  ∃ a cap, v = .slice a n cap ∧ n ≤ cap ∧ cap ≤ 9223372036854775807 ∧ (0 < n → ∃ k o, a = some ⟨k, o, none⟩ ∧ k < w.heap.size ∧ ∀ i, i < n → ∃ x : ActS, (∀ j, j < 9 → w.cell? ⟨k, o + (i * 9 + j), none⟩ = x.cells[j]?) ∧ x.text.size ≤ 9223372036854775807 ∧ 0 ≤ x.bal.c ∧ x.bal.c < 18446744073709551616)

theorem few_small (x : ActS) (h0 : 0 ≤ x.bal.c) (h1 : x.bal.c < 18446744073709551616) : x.few.small := by
  have := cutTo_size x.text 30
  have hb : x.few.bal.ok := ⟨by simpa [ActS.few, BalS.right] using h0, by simpa [ActS.few, BalS.right] using h1, by simp only [ActS.few, BalS.right]; split <;> omega, by simp only [ActS.few, BalS.right]; split <;> omega⟩
  exact ⟨by simp only [ActS.few]; omega, by simp only [ActS.few]; omega, by simp only [ActS.few]; omega, by simp only [ActS.few]; omega, by simp only [ActS.few]; omega, by simp only [ActS.few]; omega, by simp only [ActS.few]; omega, by simp only [ActS.few]; omega, by simp only [ActS.few]; omega, by simp only [ActS.few]; omega, by simp only [ActS.few]; omega, hb⟩
theorem AccAt.mono {B B' b : Nat} {l : Value} {d : AccS} {w : World} (h : AccAt B w b l d) (hB : B' ≤ B) : AccAt B' w b l d := ⟨h.blk, own_mono h.own hB⟩
/-- A clone made since stays while the acceptor turns. -/
theorem AccAt.apart {B C b b' : Nat} {l l' r : Value} {d d' : AccS} {w w0 w' : World} (h : AccAt C w b' r d') (ha : AccAt B w0 b l d) (hC : w0.heap.size ≤ C) (hb : w0.heap.size ≤ b') (hu : WrUp b l l' w w') : AccAt C w' b' r d' := by
  have h1 := ha.blk.lt
  have h2 := ha.ownlt
  refine h.upd hu.upd (fun hm => ?_) (fun g hg hm => ?_)
  · rcases List.mem_cons.1 hm with e | e
    · omega
    · have := h2 b' (by simpa using e); omega
  · have h3 := (own_ge h.own g hg).1
    rcases List.mem_cons.1 hm with e | e
    · omega
    · have := h2 g (by simpa using e); omega

/-- A later world in which the acceptor may have turned. -/
structure Zu (b : Nat) (l : Value) (W0 W : World) : Prop where
  up : ∃ l', WrUp b l l' W0 W
theorem Zu.later {b : Nat} {l : Value} {W0 W W' : World} (h : Zu b l W0 W) (hu : Upd [] W W') : Zu b l W0 W' := by
  obtain ⟨l', h⟩ := h.up; exact ⟨l', h.later hu (by simp)⟩
theorem Zu.drew {b : Nat} {l : Value} {W0 W : World} (h : Zu b l W0 W) : Zu b l W0 W.drew := h.later (Upd.refl _ _).drew
theorem Zu.alloc {b : Nat} {l : Value} {W0 W : World} (h : Zu b l W0 W) (o : Obj) : Zu b l W0 (W.alloc o) := h.later ((Upd.refl _ _).alloc o)
theorem Zu.refl (b : Nat) (l : Value) (W : World) : Zu b l W W := ⟨l, WrUp.refl _ _ _⟩
theorem Zu.set {b : Nat} {l : Value} {W0 W : World} (h : Zu b l W0 W) {p : Addr} (hp : W0.heap.size ≤ p.block) (v : Value) : Zu b l W0 (W.setCell p v) := by
  obtain ⟨l', h⟩ := h.up
  exact ⟨l', h.later (M := [p.block]) ((Upd.refl _ _).setCell (by simp) v) (by intro i hi; simp at hi; omega)⟩

set_option maxHeartbeats 16000000 in
theorem plays16_law (wit : Bool) (v : Value) (n : Nat) (w : World) (hv : Acts16C w v n) :
    Calls Try.prog 6 #[.bool wit, v] w fun e w' => e = .returned (.bool true) ∧ Upd [] w w' := by
  obtain ⟨a, cap, rfl, hnc, hc, hel⟩ := hv
  have HE := hd hel
  clear hel
  go_enter Try.func6, Try.ntmps6
  go_wp2_with fail
  refine (awake_any w).mono ?_
  rintro e w1 ⟨rfl, hu1⟩
  have HU1 := hd hu1
  clear hu1
  go_wp2_with fail
  refine (anew_any wit w1).mono ?_
  rintro e w2 ⟨rfl, hu2, hd2, hlt2⟩
  obtain ⟨b, hb⟩ : ∃ b, b = w1.heap.size := ⟨_, rfl⟩
  rw [← hb] at hd2 hlt2 ⊢
  have hwb : w.heap.size ≤ b := by have := HU1.out.size; omega
  have HU2 := hd ((HU1.out.trans hu2).alloc (.cells #[.bool wit, .int .u64 0, .int .i64 0, .int .i64 0, .slice none 0 0, .int .i64 0, .int .i64 0] 54))
  have HD2 := hd ((show AccAt w.heap.size w2 b (.slice none 0 0) (acc0 wit) from ⟨hd2.blk, own_mono hd2.own (by omega)⟩).alloc (.cells #[.bool wit, .int .u64 0, .int .i64 0, .int .i64 0, .slice none 0 0, .int .i64 0, .int .i64 0] 54))
  have HK2 := hd (Blk.new w2 #[.bool wit, .int .u64 0, .int .i64 0, .int .i64 0, .slice none 0 0, .int .i64 0, .int .i64 0] 54)
  clear hb
  go_upto_region 4 with fail
  obtain ⟨k6, hk6⟩ : ∃ k6, k6 = w2.heap.size := ⟨_, rfl⟩
  have hbk : b < k6 := by omega
  generalize w2.alloc (.cells #[.bool wit, .int .u64 0, .int .i64 0, .int .i64 0, .slice none 0 0, .int .i64 0, .int .i64 0] 54) = W3 at *
  rw [← hk6] at HK2 ⊢
  clear hu2 hd2 HU1 hlt2 hk6
  go_wp2_with fail
  go_loopw [7] (fun c wr => ∃ (t : Nat) (d : AccS) (l : Value) (a2 : Option Addr) (c2 : Nat), c = .int .i64 t ∧ t ≤ 90 ∧ d.small ∧ Upd [] w wr ∧ AccAt w.heap.size wr b l d ∧ RefRow w.heap.size wr (.slice a2 d.list.length c2) d.list ∧ Blk wr k6 #[.bool d.wit, .int .u64 d.bal.c, .int .i64 d.bal.n, .int .i64 d.base, .slice a2 d.list.length c2, .int .i64 d.node, .int .i64 d.til] 54) (fun c _ => 90 - (intOf c).toNat)
  case atStart => exact ⟨0, acc0 wit, .slice none 0 0, none, 0, rfl, by omega, small_acc0 wit, HU2.out, HD2.out, nil_row _ _ _, HK2.out⟩
  case round =>
    clear HD2 HU2 HK2
    obtain ⟨t, d, l, a2, c2, rfl, ht, hds, hu, h, hr, hk⟩ := hrel
    have HDS := hd hds
    have HU := hd hu
    have H := hd h
    have HR := hd hr
    have HK := hd hk
    have hlen := hds.above.few
    clear hds hu h hr hk
    by_cases htn : t < n
    · by_cases ht90 : t < 90
      · obtain ⟨k, o, rfl, hk, hx⟩ := HE.out (by omega)
        obtain ⟨x, hxc, hxs, hx0, hx1⟩ := hx t htn
        have HY := hd (few_small x hx0 hx1)
        have HCELL := hd (show ∀ W, Upd [] w W → ∀ j, j < 9 → W.cell? ⟨k, o + (t * 9 + j), none⟩ = x.cells[j]? from fun W hu j hj => by rw [← hxc j hj]; exact World.cell?_of_block (hu.block k hk (by simp)))
        have hfew := few_any x
        have HFW := hd (fun w => hfew w hxs)
        unfold ActS.cells at HFW
        have HKW := hd hk
        clear hfew hx hxc hxs hx0 hx1 HE hk
        go_wp2_with fail
        refine (aclone_any w.heap.size b l d wr H.out (by omega)).mono ?_
        rintro e W1 ⟨b', l', rfl, hb', hu1, ha1⟩
        have HUW := hd (HU.out.trans hu1)
        have HA1 := hd (H.out.later hu1)
        have HR1 := hd (own_upd HR.out hu1 (by simp))
        have HK1 := hd (HK.out.upd hu1 (by simp))
        have HC1 := hd ha1
        have hs1 := hu1.size
        have hbl := H.out.blk.lt
        clear hu1 ha1
        go_upto_region 10 with fail
        have HKS := hd (show ∀ W, Zu b l W1 W → Zu b l W1 W ∧ (∀ o', W.cell? ⟨k6, o', none⟩ = #[.bool d.wit, .int .u64 d.bal.c, .int .i64 d.bal.n, .int .i64 d.base, .slice a2 d.list.length c2, .int .i64 d.node, .int .i64 d.til][o']?) ∧ W.cell? ⟨k, o + t * 9, none⟩ = some (.int .i64 x.kind) ∧ W.cell? ⟨k, o + t * 9 + 1, none⟩ = some (.int .i64 x.frm) ∧ W.cell? ⟨k, o + t * 9 + 2, none⟩ = some (.int .i64 x.slot) ∧ W.cell? ⟨k, o + t * 9 + 3, none⟩ = some (.int .i64 x.time) ∧ W.cell? ⟨k, o + t * 9 + 4, none⟩ = some (.int .i64 x.now) ∧ W.cell? ⟨k, o + t * 9 + 5, none⟩ = some (.int .i64 x.long) ∧ W.cell? ⟨k, o + t * 9 + 6, none⟩ = some (.int .u64 x.bal.c) ∧ W.cell? ⟨k, o + t * 9 + 7, none⟩ = some (.int .i64 x.bal.n) ∧ W.cell? ⟨k, o + t * 9 + 8, none⟩ = some (.string x.text) from fun W hz => by
          obtain ⟨l'', hup⟩ := hz.up
          have hcc : ∀ j, j < 9 → W.cell? ⟨k, o + (t * 9 + j), none⟩ = x.cells[j]? := fun j hj => by
            rw [← HCELL.out W1 HUW.out j hj]
            refine World.cell?_of_block (hup.upd.block k (by have := HKW.out; have := HUW.out.size; omega) (fun hm => ?_))
            have hkk := HKW.out
            rcases List.mem_cons.1 hm with e | e
            · omega
            · have := (own_ge HA1.out.own k (by simpa using e)).1; omega
          simp only [ActS.cells] at hcc
          have hc0 := hcc 0 (by omega)
          have hc1 := hcc 1 (by omega)
          have hc2 := hcc 2 (by omega)
          have hc3 := hcc 3 (by omega)
          have hc4 := hcc 4 (by omega)
          have hc5 := hcc 5 (by omega)
          have hc6 := hcc 6 (by omega)
          have hc7 := hcc 7 (by omega)
          have hc8 := hcc 8 (by omega)
          simp at hc0 hc1 hc2 hc3 hc4 hc5 hc6 hc7 hc8
          simp only [← Nat.add_assoc] at hc0 hc1 hc2 hc3 hc4 hc5 hc6 hc7 hc8
          exact ⟨hz, (blk_up HK1.out HA1.out (by decide) (by decide) hup).cell, hc0, hc1, hc2, hc3, hc4, hc5, hc6, hc7, hc8⟩)
        have HDO := hd (fun W (hu : Upd [] W1 W) => do_any w.heap.size b l d (.slice a2 d.list.length c2) x.few W (HA1.out.later hu) (own_upd HR1.out hu (by simp)) HDS.out HY.out (by have := HUW.out.size; have := hu.size; omega))
        generalize x.few = y at *
        have HSR := hd (run_small y d HY.out HDS.out)
        simp only [AccS.cells, ActS.cells] at HDO HFW
        have HZ0 := hd (Zu.refl b l W1)
        have hk61 := HK1.out.lt
        clear HCELL HKW
        go_cut [9, 10] from 31 to 41 (fun s9 s10 wx => ∃ k9 l3 a4 c4, s9 = .pointer (some ⟨k9, 0, none⟩) ∧ s10 = .bool true ∧ W1.heap.size ≤ k9 ∧ AccAt w.heap.size wx b l3 (y.run d) ∧ RefRow w.heap.size wx (.slice a4 (y.run d).list.length c4) (y.run d).list ∧ WrUp b l l3 W1 wx ∧ Blk wx k9 #[.bool (y.run d).wit, .int .u64 (y.run d).bal.c, .int .i64 (y.run d).bal.n, .int .i64 (y.run d).base, .slice a4 (y.run d).list.length c4, .int .i64 (y.run d).node, .int .i64 (y.run d).til] 54)
        case first =>
          go_region_held3 (fun W => Zu b l W1 W ∧ (∀ o', W.cell? ⟨k6, o', none⟩ = #[.bool d.wit, .int .u64 d.bal.c, .int .i64 d.bal.n, .int .i64 d.base, .slice a2 d.list.length c2, .int .i64 d.node, .int .i64 d.til][o']?) ∧ W.cell? ⟨k, o + t * 9, none⟩ = some (.int .i64 x.kind) ∧ W.cell? ⟨k, o + t * 9 + 1, none⟩ = some (.int .i64 x.frm) ∧ W.cell? ⟨k, o + t * 9 + 2, none⟩ = some (.int .i64 x.slot) ∧ W.cell? ⟨k, o + t * 9 + 3, none⟩ = some (.int .i64 x.time) ∧ W.cell? ⟨k, o + t * 9 + 4, none⟩ = some (.int .i64 x.now) ∧ W.cell? ⟨k, o + t * 9 + 5, none⟩ = some (.int .i64 x.long) ∧ W.cell? ⟨k, o + t * 9 + 6, none⟩ = some (.int .u64 x.bal.c) ∧ W.cell? ⟨k, o + t * 9 + 7, none⟩ = some (.int .i64 x.bal.n) ∧ W.cell? ⟨k, o + t * 9 + 8, none⟩ = some (.string x.text))
            ((refine HKS.out _ ?_; (try go_split_ands); repeat (first | with_reducible assumption | with_reducible exact HZ0.out | with_reducible refine Zu.drew ?_ | with_reducible refine Zu.alloc ?_ _ | with_reducible refine Zu.set ?_ (by first | (simp; done) | (simp; omega)) _ | with_reducible exact hz3 | with_reducible refine Zu.later ?_ hu2)))
            (first
            | ((with_reducible refine (HFW.out (World.drew (World.alloc _ _))).mono ?_); rintro e w2 ⟨rfl, hu2⟩; have hud : Upd [] W1 w2 := Upd.trans (by repeat (first | with_reducible exact Upd.refl _ _ | with_reducible refine Upd.drew ?_ | with_reducible refine Upd.alloc ?_ _)) hu2; have hzb := Blk.upd (Blk.newd W1 _ _ rfl) hu2 (by simp))
            | ((with_reducible refine (HFW.out _).mono ?_); rintro e w2 ⟨rfl, hu2⟩; have hud : Upd [] W1 w2 := Upd.trans (by repeat (first | with_reducible exact Upd.refl _ _ | with_reducible refine Upd.drew ?_ | with_reducible refine Upd.alloc ?_ _)) hu2)
            | ((with_reducible refine (HDO.out (w2.alloc _) (hud.alloc _)).mono ?_); rintro e w3 ⟨l3, l4, rfl, ha3, hr3, hup3⟩; obtain ⟨a4, c4, rfl, -⟩ := own_open hr3; have hup4 := WrUp.pre (hud.alloc _) hup3; have hz3 : Zu b l W1 w3 := ⟨_, hup4⟩; have hzc := blk_up (Blk.new w2 _ _) (HA1.out.later (hud.alloc _)) (by decide) (by decide) hup3; have hzcc := hzc.cell; have hzcz := hzc.frozen; have hs3 := hup3.upd.size; (try simp at hs3); have hs4 := hud.size)
            | ((with_reducible refine (HDO.out w2 hud).mono ?_); rintro e w3 ⟨l3, l4, rfl, ha3, hr3, hup3⟩; obtain ⟨a4, c4, rfl, -⟩ := own_open hr3; have hup4 := WrUp.pre hud hup3; have hz3 : Zu b l W1 w3 := ⟨_, hup4⟩; have hzc := blk_up (hzb) (HA1.out.later hud) (by decide) (by decide) hup3; have hzcc := hzc.cell; have hzcz := hzc.frozen; have hs3 := hup3.upd.size; (try simp at hs3); have hs4 := hud.size)
            | ((with_reducible refine (HDO.out w2 hud).mono ?_); rintro e w3 ⟨l3, l4, rfl, ha3, hr3, hup3⟩; obtain ⟨a4, c4, rfl, -⟩ := own_open hr3; have hup4 := WrUp.pre hud hup3; have hz3 : Zu b l W1 w3 := ⟨_, hup4⟩; have hs3 := hup3.upd.size; (try simp at hs3); have hs4 := hud.size))
          · go_wp2_with fail
            go_meet
            case rel => exact ⟨w3.heap.size, l3, a4, c4, rfl, rfl, by omega, ha3.alloc _, own_upd hr3 ((Upd.refl [] _).alloc _) (by simp), hup4.later ((Upd.refl [] _).alloc _) (by simp), Blk.new _ _ _⟩
          · obtain ⟨W8, e8, u8, b8⟩ := set7 hzc (.bool (y.run d).wit) (.int .u64 (y.run d).bal.c) (.int .i64 (y.run d).bal.n) (.int .i64 (y.run d).base) (.slice a4 (y.run d).list.length c4) (.int .i64 (y.run d).node) (.int .i64 (y.run d).til)
            rw [e8]
            go_wp2_with fail
            go_meet
            case rel => exact ⟨_, l3, a4, c4, rfl, rfl, by omega, ha3.keep hzc (by decide) (by decide) u8, own_keep hr3 hzc (by decide) u8, hup4.later u8 (by intro i hi; simp at hi; omega), b8⟩
          · obtain ⟨W8, e8, u8, b8⟩ := set7 hzc (.bool (y.run d).wit) (.int .u64 (y.run d).bal.c) (.int .i64 (y.run d).bal.n) (.int .i64 (y.run d).base) (.slice a4 (y.run d).list.length c4) (.int .i64 (y.run d).node) (.int .i64 (y.run d).til)
            rw [e8]
            go_wp2_with fail
            go_meet
            case rel => exact ⟨_, l3, a4, c4, rfl, rfl, by omega, ha3.keep hzc (by decide) (by decide) u8, own_keep hr3 hzc (by decide) u8, hup4.later u8 (by intro i hi; simp at hi; omega), b8⟩
        case rest =>
          obtain ⟨k9, l3, a4, c4, rfl, rfl, hk9, ha, hr, hup, hb9⟩ := hcut
          have hC := HC1.out.apart H.out (Nat.le_refl _) hb' hup
          have hR2 := own_up HR1.out HA1.out (by decide) (by decide) hup
          have hK6 := blk_up HK1.out HA1.out (by decide) (by decide) hup
          have HI1 := hd (fun W (hu : Upd [] wc W) => is_any w.heap.size b l3 (y.run d) (.slice a4 (y.run d).list.length c4) W (ha.later hu) (own_upd hr hu (by simp)) HSR.out)
          have HI2 := hd (fun W (hu : Upd [] wc W) => is_any w.heap.size b' l' d (.slice a2 d.list.length c2) W ((hC.mono HU.out.size).later hu) (own_upd hR2 hu (by simp)) HDS.out)
          simp only [AccS.cells] at HI1 HI2
          have HUc := hd (HUW.out.trans' hup.upd (fun i hi => by
            rcases List.mem_cons.1 hi with e | e
            · exact .inr (by omega)
            · exact .inr (own_ge HA1.out.own i (by simpa using e)).1))
          have HA4 := hd ha
          have HR4 := hd hr
          have HB9 := hd hb9
          have HB6 := hd hK6
          have hk6l := hK6.lt
          have hk9c := hb9.cell
          have hk6c := hK6.cell
          clear ha hr hup hb9 hC hR2 hK6 HKS HDO HFW HC1 HR1 HA1 HUW H HR HK HK1 HZ0
          generalize HRD : y.run d = rd at *
          go_wp2_with fail
          refine (HI1.out wc (Upd.refl _ _)).mono ?_
          rintro e W5 ⟨rfl, hu5⟩
          have hk9c := (HB9.out.upd hu5 (by simp)).cell
          have hk6c := (HB6.out.upd hu5 (by simp)).cell
          go_wp2_with fail
          refine (HI2.out W5 hu5).mono ?_
          rintro e W6 ⟨rfl, hu6⟩
          have hb96 := (HB9.out.upd hu5 (by simp)).upd hu6 (by simp)
          have hb66 := (HB6.out.upd hu5 (by simp)).upd hu6 (by simp)
          have hk9c := hb96.cell
          have hk6c := hb66.cell
          have hk6z := hb66.frozen
          have HU6 := hd (hu5.trans hu6)
          have HB66 := hd hb66
          obtain ⟨W8, e8, u8, b8⟩ := set7 hb66 (.bool rd.wit) (.int .u64 rd.bal.c) (.int .i64 rd.bal.n) (.int .i64 rd.base) (.slice a4 rd.list.length c4) (.int .i64 rd.node) (.int .i64 rd.til)
          have HE8 := hd e8
          have HU8 := hd u8
          have HB8 := hd b8
          have hnk : ¬ k9 = k6 := by omega
          have hnk' : ¬ k6 = k9 := by omega
          clear hu5 hu6 hb96 hb66 HI1 HI2 e8 u8 b8
          go_wp2_with fail
          rw [HE8.out]
          go_roundw
          case rel => exact ⟨t + 1, rd, l3, a4, c4, by go_num, by omega, HSR.out, (HUc.out.trans HU6.out).trans' HU8.out (by intro i hi; simp at hi; omega), (HA4.out.later HU6.out).keep HB66.out (by decide) (by decide) HU8.out, own_keep (own_upd HR4.out HU6.out (by simp)) HB66.out (by decide) HU8.out, HB8.out⟩
          case measure => simp [intOf]; omega
      · go_wp2_with fail
        go_ret
        exact ⟨rfl, HU.out⟩
    · go_wp2_with fail
      go_ret
      exact ⟨rfl, HU.out⟩
end Go.Proofs.Ytfhmdeamhmjddaa

/-
  How the list of calls of layer 16's statements reads in memory, the counters within 64 bits. No condition beyond those that each theorem states.
-/
set_option linter.unusedVariables false
set_option linter.unusedSimpArgs false
set_option maxRecDepth 100000
namespace Go.Proofs.Ytfhmdeamhmjddaa
open Go.ChangeShapes Go.WideShapes Go.Deep Go.RowKit
theorem lit_u64 {n : Int} (h : (Lit.int .u64 n).wf = true) : 0 ≤ n ∧ n < 18446744073709551616 := by
  simp only [Lit.wf, Bool.and_eq_true, decide_eq_true_eq] at h
  have h0 : IntKind.u64.min = 0 := by decide
  have h1 : IntKind.u64.max = 18446744073709551615 := by decide
  omega
theorem acts16c_at {H : Type} {enc : TypeId × Value → H} {w : World} {base : Nat} {spare : Nat → Bool} {held : Bool} {fuel : Nat} {v : Value} {x : DataW H × List MemPlace}
    (h : DataW.trod enc Try.prog w base spare held fuel 26 [v] = some x) : ∃ n, Acts16C w v n := by
  obtain ⟨a, len, cap, hcs, hl, hm, hel⟩ := slice_structs Try.underlying26 Try.underlying33 h
  simp at hcs
  subst hcs
  refine ⟨len, a, cap, rfl, hl, by simpa [maxLen] using hm, fun hpos => ?_⟩
  obtain ⟨b, rfl, hf⟩ := hel hpos
  have h9 : Try.prog.cellsOf 33 = 9 := by kernel_rfl
  rw [h9] at hf
  have c1 : Try.prog.cellsOf 3 = 1 := by kernel_rfl
  have c2 : Try.prog.cellsOf 31 = 2 := by kernel_rfl
  have c3 : Try.prog.cellsOf 9 = 1 := by kernel_rfl
  have c4 : Try.prog.cellsOf 29 = 1 := by kernel_rfl
  have hspot : b.spot = none ∧ b.block < w.heap.size := by
    obtain ⟨cs', hlen, hcell, _⟩ := hf 0 hpos
    obtain ⟨k0, k1, k2, k3, k4, k5, k6, k7, k8, rfl⟩ := nine hlen
    have hc : w.cell? (b.add 0) = some k0 := by have := hcell 0 (by omega); simpa using this
    have hs := World.cell?_spot hc
    have hb := World.block_lt_of_cell? w _ hc
    have e0 : b.add 0 = b := by unfold Addr.add; simp
    rw [e0] at hs hb
    exact ⟨hs, hb⟩
  refine ⟨b.block, b.off, by obtain ⟨bb, bo, bs⟩ := b; simp only at hspot; rw [hspot.1], hspot.2, fun i hi => ?_⟩
  obtain ⟨cs', hlen, hcell, hfld⟩ := hf i hi
  obtain ⟨k0, k1, k2, k3, k4, k5, k6, k7, k8, rfl⟩ := nine hlen
  obtain ⟨y0, n0, t0⟩ := hfld 0 _ rfl
  obtain ⟨y1, n1, t1⟩ := hfld 1 _ rfl
  obtain ⟨y2, n2, t2⟩ := hfld 2 _ rfl
  obtain ⟨y3, n3, t3⟩ := hfld 3 _ rfl
  obtain ⟨y4, n4, t4⟩ := hfld 4 _ rfl
  obtain ⟨y5, n5, t5⟩ := hfld 5 _ rfl
  obtain ⟨y6, n6, t6⟩ := hfld 6 _ rfl
  obtain ⟨y7, n7, t7⟩ := hfld 7 _ rfl
  simp only [List.getElem_toArray, List.getElem_cons_zero, List.getElem_cons_succ, c1, c2, c3, List.drop_zero, List.drop_succ_cons, List.take_succ_cons, List.take_zero] at t0 t1 t2 t3 t4 t5 t6 t7
  obtain ⟨z0, e0, _, _⟩ := DataW.trod_int Try.underlying3 t0
  obtain ⟨z1, e1, _, _⟩ := DataW.trod_int Try.underlying3 t1
  obtain ⟨z2, e2, _, _⟩ := DataW.trod_int Try.underlying3 t2
  obtain ⟨z3, e3, _, _⟩ := DataW.trod_int Try.underlying3 t3
  obtain ⟨z4, e4, _, _⟩ := DataW.trod_int Try.underlying3 t4
  obtain ⟨z5, e5, _, _⟩ := DataW.trod_int Try.underlying3 t5
  obtain ⟨s7, e7, _, hs7⟩ := DataW.trod_string Try.underlying9 t7
  obtain ⟨ys, n', hn', hy, hlen', hyl, hf6⟩ := DataW.trod_struct Try.underlying31 t6
  have u0 := hf6 0 _ rfl
  have u1 := hf6 1 _ rfl
  rw [List.getElem?_eq_getElem (by rw [hyl]; decide)] at u0 u1
  simp only [List.getElem_toArray, List.getElem_cons_zero, List.getElem_cons_succ, c1, c4, List.drop_zero, List.drop_succ_cons, List.take_succ_cons, List.take_zero] at u0 u1
  obtain ⟨z6, e6, _, hwf6⟩ := DataW.trod_int Try.underlying29 u0
  obtain ⟨z8, e8, _, _⟩ := DataW.trod_int Try.underlying3 u1
  simp at e0 e1 e2 e3 e4 e5 e6 e7 e8
  subst e0 e1 e2 e3 e4 e5 e6 e7 e8
  refine ⟨⟨z0, z1, z2, z3, z4, z5, ⟨z6, z8⟩, s7⟩, fun j hj => ?_, by simpa [maxLen] using hs7, (lit_u64 hwf6).1, (lit_u64 hwf6).2⟩
  have hc := hcell j hj
  have e : ([Value.int .i64 z0, .int .i64 z1, .int .i64 z2, .int .i64 z3, .int .i64 z4, .int .i64 z5, .int .u64 z6, .int .i64 z8, .string s7] : List Value)[j]? = (ActS.cells ⟨z0, z1, z2, z3, z4, z5, ⟨z6, z8⟩, s7⟩)[j]? := by simp [ActS.cells]
  rw [e] at hc
  have hv : ∃ u, (ActS.cells ⟨z0, z1, z2, z3, z4, z5, ⟨z6, z8⟩, s7⟩)[j]? = some u := ⟨_, Array.getElem?_eq_getElem (by simpa [ActS.cells] using hj)⟩
  obtain ⟨u, hu⟩ := hv
  rw [hu] at hc ⊢
  have ea := addr_add' hc
  rw [ea] at hc
  exact hc
end Go.Proofs.Ytfhmdeamhmjddaa
