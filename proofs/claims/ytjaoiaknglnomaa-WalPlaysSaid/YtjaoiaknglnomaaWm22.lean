/-
  How the list of calls of layer 13's statements reads in memory. No condition beyond those that each theorem states.
-/
import Derived.Test.YtjaoiaknglnomaaWm21
import Derived.ProofKit
import Derived.Deep.Slices
import Derived.Deep.Fields
import Derived.ChangeSame
import Derived.Test.YtjaoiaknglnomaaWm20
import Derived.Test.YtjaoiaknglnomaaWm17
import Derived.Laws.BytesArg
import Derived.Laws.MakeOwn
set_option linter.unusedVariables false
set_option linter.unusedSimpArgs false
set_option maxRecDepth 100000
namespace Go.Proofs.Ytjaoiaknglnomaa
open Go.ChangeShapes Go.WideShapes Go.Deep Go.RowKit

section
variable {H : Type} {enc : TypeId × Value → H} {P : Program} {w : World} {base : Nat} {spare : Nat → Bool} {held : Bool}

/-- A slice of structs: the cells of every element, and how each field reads. -/
theorem slice_structs {t e : TypeId} {fs : Array Field} {fuel : Nat} {cs : List Value} {x : DataW H × List MemPlace} (ht : P.underlying t = some (.slice e)) (he : P.underlying e = some (.struct fs))
    (h : DataW.trod enc P w base spare held fuel t cs = some x) :
    ∃ (a : Option Addr) (len cap : Nat), cs = [.slice a len cap] ∧ len ≤ cap ∧ cap ≤ maxLen ∧ (0 < len → ∃ b, a = some b ∧
      ∀ i, i < len → ∃ cs' : List Value, cs'.length = P.cellsOf e ∧ (∀ q, q < P.cellsOf e → w.cell? (b.add (i * P.cellsOf e + q)) = cs'[q]?) ∧
        ∀ (j : Nat) (f : Field), fs[j]? = some f → ∃ (y : DataW H × List MemPlace) (n : Nat), DataW.trod enc P w base spare held n f.type ((cs'.drop f.offset).take (P.cellsOf f.type)) = some y) := by
  rcases open_slice ht h with ⟨hcs, _⟩ | ⟨a, len, cap, m, n, D, Pl, hcs, hb, hl, hm, hmm, hx, hi⟩
  · exact ⟨none, 0, 0, hcs, by omega, by unfold maxLen; omega, by omega⟩
  · refine ⟨some a, len, cap, hcs, hl, hm, fun _ => ⟨a, rfl, fun i him => ?_⟩⟩
    obtain ⟨cs', hc, ht'⟩ := hi i (by rw [hmm]; split <;> omega)
    obtain ⟨ys, n', hn', hy, hlen, hyl, hf⟩ := DataW.trod_struct he ht'
    obtain ⟨_, hcl, hat⟩ := World.cells?_some hc
    refine ⟨cs', hlen, fun q hq => ?_, fun j f hj => ?_⟩
    · rw [← Go.Deep.add_add]; exact hat q hq
    · have h1 := hf j f hj
      have hjl : j < fs.size := (Array.getElem?_eq_some_iff.1 hj).1
      have hys : ys[j]? = some (ys[j]'(by omega)) := List.getElem?_eq_getElem (by omega)
      exact ⟨_, n', h1.trans hys⟩
theorem addr_add' {b : Addr} {n : Nat} {v : Value} (h : w.cell? (b.add n) = some v) : b.add n = ⟨b.block, b.off + n, none⟩ := by
  have hs := World.cell?_spot h
  unfold Addr.add at *
  split
  · rename_i h0
    rw [if_pos h0] at hs
    subst h0
    obtain ⟨bb, bo, bs⟩ := b
    simp only at hs
    subst hs
    rfl
  · rfl
end

section
variable {H : Type} {enc : TypeId × Value → H} {w : World} {base : Nat} {spare : Nat → Bool} {held : Bool}
/-- A slice of one-cell elements. -/
theorem slice_one {t e : TypeId} {fuel : Nat} {cs : List Value} {x : DataW H × List MemPlace} (ht : Try.prog.underlying t = some (.slice e)) (hC : Try.prog.cellsOf e = 1) (h : DataW.trod enc Try.prog w base spare held fuel t cs = some x) :
    ∃ (a : Option Addr) (len cap : Nat), cs = [.slice a len cap] ∧ len ≤ cap ∧ cap ≤ maxLen ∧ (0 < len → ∃ k o, a = some ⟨k, o, none⟩ ∧ k < w.heap.size ∧
      ∀ i, i < len → ∃ (v : Value) (y : DataW H × List MemPlace) (n : Nat), w.cell? ⟨k, o + i, none⟩ = some v ∧ DataW.trod enc Try.prog w base spare held n e [v] = some y) := by
  rcases open_slice ht h with ⟨hcs, _⟩ | ⟨a, len, cap, m, n, D, Pl, hcs, hb, hl, hm, hmm, hx, hi⟩
  · exact ⟨none, 0, 0, hcs, by omega, by unfold maxLen; omega, by omega⟩
  · have key : ∀ i, i < len → ∃ (v : Value) (y : DataW H × List MemPlace) (n : Nat), w.cell? (a.add i) = some v ∧ DataW.trod enc Try.prog w base spare held n e [v] = some y := fun i him => by
      obtain ⟨cs', hc, ht'⟩ := hi i (by rw [hmm]; split <;> omega)
      rw [hC] at hc
      obtain ⟨_, hcl, hat⟩ := World.cells?_some hc
      match cs', hcl, hat, ht' with
      | [v], _, hat, ht' =>
        have h0 := hat 0 (by omega)
        rw [Go.Deep.add_add, Nat.mul_one, Nat.add_zero] at h0
        exact ⟨v, _, _, h0, ht'⟩
    refine ⟨some a, len, cap, hcs, hl, hm, fun hpos => ?_⟩
    obtain ⟨v0, _, _, hc0, _⟩ := key 0 hpos
    have e0 := addr_add hc0
    refine ⟨a.block, a.off, ?_, ?_, fun i him => ?_⟩
    · have hs := World.cell?_spot hc0
      obtain ⟨bb, bo, bs⟩ := a
      simp [Addr.add] at hs
      subst hs
      rfl
    · have := World.block_lt_of_cell? w _ hc0
      rw [e0] at this
      exact this
    · obtain ⟨v, y, n, hc, hy⟩ := key i him
      rw [addr_add hc] at hc
      exact ⟨v, y, n, hc, hy⟩
theorem strs_at {fuel : Nat} {v : Value} {x : DataW H × List MemPlace} (h : DataW.trod enc Try.prog w base spare held fuel 60 [v] = some x) : ∃ n f, StrsAt w.heap.size w v n f := by
  obtain ⟨a, len, cap, hcs, hl, hm, hel⟩ := slice_one Try.underlying60 (by kernel_rfl) h
  simp at hcs
  subst hcs
  by_cases hp : 0 < len
  · obtain ⟨k, o, rfl, hk, hf⟩ := hel hp
    have hx : ∀ i, ∃ l : List UInt8, i < len → w.cell? ⟨k, o + i, none⟩ = some (.string (txt l)) ∧ l.length ≤ 9223372036854775807 := fun i => by
      by_cases hi : i < len
      · obtain ⟨u, y, n, hc, hy⟩ := hf i hi
        obtain ⟨s, e, _, hs⟩ := DataW.trod_string Try.underlying9 hy
        simp at e
        subst e
        refine ⟨s.data.toList, fun _ => ⟨by rw [txt_data]; exact hc, ?_⟩⟩
        rw [Array.length_toList, ByteArray.size_data]
        simpa [maxLen] using hs
      · exact ⟨[], fun h => absurd h hi⟩
    obtain ⟨f, hff⟩ := Classical.skolem.1 hx
    exact ⟨len, f, some ⟨k, o, none⟩, cap, rfl, hl, by simpa [maxLen] using hm, fun _ => ⟨k, o, rfl, hk, hff⟩⟩
  · exact ⟨len, fun _ => [], a, cap, rfl, hl, by simpa [maxLen] using hm, fun h => absurd h hp⟩
end

/-- A list of calls. -/
def Acts13At (w : World) (v : Value) (n : Nat) : Prop :=
  ∃ (a : Option Addr) (c : Nat), v = .slice a n c ∧ n ≤ c ∧ c ≤ 9223372036854775807 ∧ (0 < n → ∃ k o, a = some ⟨k, o, none⟩ ∧ k < w.heap.size ∧ ∀ t, t < n → ∃ (kind : Int) (S : List UInt8) (lv : Value) (l : List (List UInt8)),
    w.cell? ⟨k, o + t * 3, none⟩ = some (.int .i64 kind) ∧ w.cell? ⟨k, o + t * 3 + 1, none⟩ = some (.string (txt S)) ∧ w.cell? ⟨k, o + t * 3 + 2, none⟩ = some lv ∧ S.length ≤ 9223372036854775807 ∧ TxsAt w lv l ∧ ∀ x ∈ l, x.length ≤ 9223372036854775807)
theorem txs_of {w : World} {v : Value} {n : Nat} {f : Nat → List UInt8} (h : StrsAt w.heap.size w v n f) : TxsAt w v ((List.range n).map f) ∧ ∀ x ∈ (List.range n).map f, 0 < n → x.length ≤ 9223372036854775807 := by
  obtain ⟨a, c, rfl, h1, h2, h3⟩ := h
  have hl : ((List.range n).map f).length = n := by simp
  refine ⟨⟨a, c, by rw [hl], by omega, h2, fun h0 => ?_⟩, fun x hx h0 => ?_⟩
  · obtain ⟨k, o, e, hk, hc⟩ := h3 (by omega)
    exact ⟨k, o, e, hk, fun i hi => by rw [(hc i (by omega)).1]; simp⟩
  · obtain ⟨k, o, e, hk, hc⟩ := h3 h0
    obtain ⟨i, hi, rfl⟩ := List.mem_map.1 hx
    exact (hc i (List.mem_range.1 hi)).2
theorem three {α : Type} {l : List α} (h : l.length = 3) : ∃ c0 c1 c2, l = [c0, c1, c2] := by
  match l, h with
  | [c0, c1, c2], _ => exact ⟨c0, c1, c2, rfl⟩
theorem acts13_at {H : Type} {enc : TypeId × Value → H} {w : World} {base : Nat} {spare : Nat → Bool} {held : Bool} {fuel : Nat} {v : Value} {x : DataW H × List MemPlace}
    (h : DataW.trod enc Try.prog w base spare held fuel 72 [v] = some x) : ∃ n, Acts13At w v n := by
  obtain ⟨a, len, cap, hcs, hl, hm, hel⟩ := slice_structs Try.underlying72 Try.underlying80 h
  simp at hcs
  subst hcs
  refine ⟨len, a, cap, rfl, hl, by simpa [maxLen] using hm, fun hpos => ?_⟩
  obtain ⟨b, rfl, hf⟩ := hel hpos
  have h9 : Try.prog.cellsOf 80 = 3 := by kernel_rfl
  rw [h9] at hf
  have c1 : Try.prog.cellsOf 3 = 1 := by kernel_rfl
  have c3 : Try.prog.cellsOf 9 = 1 := by kernel_rfl
  have c4 : Try.prog.cellsOf 60 = 1 := by kernel_rfl
  have hspot : b.spot = none ∧ b.block < w.heap.size := by
    obtain ⟨cs', hlen, hcell, _⟩ := hf 0 hpos
    obtain ⟨k0, k1, k2, rfl⟩ := three hlen
    have hc : w.cell? (b.add 0) = some k0 := by have := hcell 0 (by omega); simpa using this
    have hs := World.cell?_spot hc
    have hb := World.block_lt_of_cell? w _ hc
    have e0 : b.add 0 = b := by unfold Addr.add; simp
    rw [e0] at hs hb
    exact ⟨hs, hb⟩
  refine ⟨b.block, b.off, by obtain ⟨bb, bo, bs⟩ := b; simp only at hspot; rw [hspot.1], hspot.2, fun i hi => ?_⟩
  obtain ⟨cs', hlen, hcell, hfld⟩ := hf i hi
  obtain ⟨k0, k1, k2, rfl⟩ := three hlen
  obtain ⟨y0, n0, t0⟩ := hfld 0 _ rfl
  obtain ⟨y1, n1, t1⟩ := hfld 1 _ rfl
  obtain ⟨y2, n2, t2⟩ := hfld 2 _ rfl
  simp only [List.getElem_toArray, List.getElem_cons_zero, List.getElem_cons_succ, c1, c3, c4, List.drop_zero, List.drop_succ_cons, List.take_succ_cons, List.take_zero] at t0 t1 t2
  obtain ⟨z0, e0, _, _⟩ := DataW.trod_int Try.underlying3 t0
  obtain ⟨s1, e1, _, hs1⟩ := DataW.trod_string Try.underlying9 t1
  obtain ⟨m, f, hst⟩ := strs_at t2
  simp at e0 e1
  subst e0 e1
  obtain ⟨htx, hx2⟩ := txs_of hst
  have g0 := hcell 0 (by omega)
  have g1 := hcell 1 (by omega)
  have g2 := hcell 2 (by omega)
  simp only [List.getElem?_cons_zero, List.getElem?_cons_succ, Nat.add_zero] at g0 g1 g2
  rw [addr_add' g0] at g0
  rw [addr_add' g1] at g1
  rw [addr_add' g2] at g2
  refine ⟨z0, s1.data.toList, k2, (List.range m).map f, g0, by rw [txt_data, Nat.add_assoc]; exact g1, by rw [Nat.add_assoc]; exact g2, ?_, htx, fun x hx => hx2 x hx (by have := List.length_pos_of_mem hx; simpa using this)⟩
  rw [Array.length_toList, ByteArray.size_data]
  simpa [maxLen] using hs1
end Go.Proofs.Ytjaoiaknglnomaa

/-
  chatelainelaw13.awake, walked: it answers true. No condition.
-/
set_option linter.unusedVariables false
set_option linter.unusedSimpArgs false
set_option maxRecDepth 100000
namespace Go.Proofs.Ytjaoiaknglnomaa
open Go.RowKit

theorem aw_caps : Caps 200 1000 := ⟨by decide, by decide, by decide⟩
theorem live_bare (C : Nat) (R : Int) : Live C R (bareD R) 0 0 [] 0 0 :=
  ⟨[], [], [], [], 0, 0, rfl, Int.le_refl _, (show (0 : Int) ≤ 1073741825 by decide), by simp, by simp, by simp, .inl ⟨rfl, rfl, ⟨false, parse_none⟩, rfl⟩, .inl ⟨rfl, rfl, rfl⟩, Nat.le_refl _, Nat.le_refl _, rfl, Nat.le_refl _, Nat.zero_le _, by simp [encL], torn_nil⟩
theorem aw_crash : (walAppend (walSync (walAppend (bareD 1000) (lgOf 0 0 []) [97]).2.1 (lgOf 0 0 [[97]]) 0).2.1 (lgOf 0 (encL 0 [[97]]).length [[97]]) [98]).2.1.crashIt [] = (walSync (walAppend (bareD 1000) (lgOf 0 0 []) [97]).2.1 (lgOf 0 0 [[97]]) 0).2.1 := by kernel_rfl
theorem aw_one : ∃ d1 d2 d3 v, walAppend (bareD 1000) (lgOf 0 0 []) [97] = (0, d1, lgOf 0 0 [[97]]) ∧ Live 200 1000 d1 0 0 [[97]] 0 0 ∧
    walSync d1 (lgOf 0 0 [[97]]) 0 = (0, d2, lgOf 0 (encL 0 [[97]]).length [[97]], v) ∧ v ≤ 1 ∧ Live 200 1000 d2 0 (encL 0 [[97]]).length [[97]] 1 v ∧
    walAppend d2 (lgOf 0 (encL 0 [[97]]).length [[97]]) [98] = (0, d3, lgOf 0 (encL 0 [[97]]).length [[97], [98]]) ∧ Live 200 1000 d3 0 (encL 0 [[97]]).length [[97], [98]] 1 v ∧ d3.crashIt [] = d2 := by
  obtain ⟨d1, f1, h1⟩ := append_live aw_caps (live_bare 200 1000) [97] (by decide) (by decide)
  have f0 : (bareD 1000).fail = 0 := rfl
  rcases h1 with ⟨e1, l1⟩ | ⟨hz, _⟩
  rotate_left
  · exact absurd f0 hz
  have g1 : 0 ≤ d1.fail := by obtain ⟨_, _, _, _, _, _, _, h, _⟩ := l1; exact h
  obtain ⟨d2, f2, h2⟩ := sync_live aw_caps (by decide) l1 (by decide)
  rcases h2 with ⟨v, v0, v1, e2, l2⟩ | ⟨hz, _⟩
  rotate_left
  · exact absurd (by omega) hz
  have g2 : 0 ≤ d2.fail := by obtain ⟨_, _, _, _, _, _, _, h, _⟩ := l2; exact h
  obtain ⟨d3, f3, h3⟩ := append_live aw_caps l2 [98] (by decide) (by decide)
  rcases h3 with ⟨e3, l3⟩ | ⟨hz, _⟩
  rotate_left
  · exact absurd (by omega) hz
  refine ⟨d1, d2, d3, v, e1, l1, e2, v1, l2, e3, l3, ?_⟩
  have q1 : d1 = (walAppend (bareD 1000) (lgOf 0 0 []) [97]).2.1 := by rw [e1]
  have e2' : walSync d1 (lgOf 0 0 [[97]]) 0 = (0, d2, lgOf 0 (encL 0 [[97]]).length [[97]], v) := e2
  have q2 : d2 = (walSync d1 (lgOf 0 0 [[97]]) 0).2.1 := by rw [e2']
  have e3' : walAppend d2 (lgOf 0 (encL 0 [[97]]).length [[97]]) [98] = (0, d3, lgOf 0 (encL 0 [[97]]).length [[97], [98]]) := e3
  have q3 : d3 = (walAppend d2 (lgOf 0 (encL 0 [[97]]).length [[97]]) [98]).2.1 := by rw [e3']
  rw [q3, q2, q1]
  exact aw_crash

theorem wawake_any (w : World) : Calls Try.prog 34 #[] w fun e w' => e = .returned (.bool true) ∧ Upd [] w w' := by
  obtain ⟨d1, d2, d3, v, e1, l1, e2, hv, l2, e3, l3, e4⟩ := aw_one
  have a1 : txt [97] = ⟨#[97]⟩ := rfl
  have a2 : txt [98] = ⟨#[98]⟩ := rfl
  have hl0 : ∀ t ∈ ([] : List (List UInt8)), t.length ≤ 262144 := by simp
  have hl1 : ∀ t ∈ [[(97 : UInt8)]], t.length ≤ 262144 := by decide
  have hl2 : ∀ t ∈ [[(97 : UInt8)], [98]], t.length ≤ 262144 := by decide
  have hf0 := (base_safe aw_caps hl0 (live_bare 200 1000)).1
  have hf1 := (base_safe aw_caps hl1 l1).1
  have hf2 := (base_safe aw_caps hl1 l2).1
  obtain ⟨hf3, hok3, _⟩ := base_safe aw_caps hl2 l3
  have HOP1 := hd (fun b W (h : DiskAt W b (bareD 1000)) => wopen_live aw_caps (by decide) (live_bare 200 1000) ⟨by decide, by decide, by decide, hl0⟩ (by decide) b W h)
  have HAP1 := hd (fun kl kc b W (h1 : DiskAt W b (bareD 1000)) (h2 : LogAt W kl kc b (lgOf 0 0 [])) => wappend_any (bareD 1000) (lgOf 0 0 []) [97] kl kc b W h1 h2 hf0 (by decide) (by decide) (by decide) (by decide) (by decide))
  have HSY := hd (fun kl kc b W (h1 : DiskAt W b d1) (h2 : LogAt W kl kc b (lgOf 0 0 [[97]])) (h3 : CellAt W kc b 2 0) => wsync_any d1 (lgOf 0 0 [[97]]) 0 kl kc b W h1 h2 h3 hf1 (by decide) (by decide) (by decide))
  have HAP2 := hd (fun kl kc b W (h1 : DiskAt W b d2) (h2 : LogAt W kl kc b (lgOf 0 (encL 0 [[97]]).length [[97]])) => wappend_any d2 (lgOf 0 (encL 0 [[97]]).length [[97]]) [98] kl kc b W h1 h2 hf2 (by decide) (by decide) (by rw [show (lgOf 0 (encL 0 [[97]]).length [[97]]).gen = 0 from rfl, live_now l2]; decide) (by decide) (by decide))
  have HOP2 := hd (fun b W (h : DiskAt W b d2) => wopen_live aw_caps (by decide) l2 ⟨by decide, by omega, by decide, hl1⟩ (by decide) b W h)
  rw [e1] at HAP1
  rw [e2] at HSY
  rw [e3] at HAP2
  simp only at HAP1 HSY HAP2
  rw [a1] at HAP1
  rw [a2] at HAP2
  have HCR := hd (fun b W (h : DiskAt W b d3) => crash_any d3 (.slice none 0 0) [] W b h hf3.small hok3 ⟨none, 0, rfl, by simp, by omega, by simp⟩)
  rw [e4] at HCR
  clear e1 l1 e2 l2 e3 l3 e4 hf0 hf1 hf2 hf3 hok3 hl0 hl1 hl2 hv
  go_enter Try.func34, Try.ntmps34
  go_wp2_with fail
  refine (new_any 1000 w).mono ?_
  rintro e w1 ⟨b, rfl, hb, hu1, hd1⟩
  have hd1 : DiskAt w1 b (bareD 1000) := hd1
  have HB := hd hb
  have HU1 := hd hu1
  have HD1 := hd hd1
  clear hb hu1 hd1
  go_wp2_with fail
  refine (HOP1.out b w1 HD1.out).mono ?_
  rintro e w2 ⟨⟨kl, kc, vl, rfl, hkl, hkc, hl2, hc2, hv2⟩, hu2, hd2⟩
  obtain ⟨a, cap, rfl, -⟩ := own_open hv2
  have HK := hd (And.intro hkl hkc)
  have HU2 := hd hu2
  have HD2 := hd hd2
  have HL2 := hd hl2
  have HC2 := hd hc2
  clear hkl hkc hu2 hd2 hl2 hc2 hv2
  have hlen0 : ([] : List (List UInt8)).length = 0 := rfl
  rw [hlen0]
  go_wp2_with fail
  refine (HAP1.out kl kc b w2 HD2.out HL2.out).mono ?_
  rintro e w3 ⟨rfl, hu3, hd3, hl3⟩
  have HC3 := hd (HC2.out.upd hu3 (by simp [blk_ne HC2.out HD2.out (by decide), blk_ne HC2.out HL2.out (by decide)]))
  have HU3 := hd hu3
  have HD3 := hd hd3
  have HL3 := hd hl3
  clear hu3 hd3 hl3
  go_wp2_with fail
  refine (HSY.out kl kc b w3 HD3.out HL3.out HC3.out).mono ?_
  rintro e w4 ⟨rfl, hu4, hd4, hl4, hc4⟩
  have HU4 := hd hu4
  have HD4 := hd hd4
  have HL4 := hd hl4
  clear hu4 hd4 hl4 hc4
  go_wp2_with fail
  refine (HAP2.out kl kc b w4 HD4.out HL4.out).mono ?_
  rintro e w5 ⟨rfl, hu5, hd5, hl5⟩
  have HU5 := hd hu5
  have HD5 := hd hd5
  clear hu5 hd5 hl5
  go_wp2_with fail
  refine (HCR.out b w5 HD5.out).mono ?_
  rintro e w6 ⟨rfl, hu6, hd6⟩
  have HU6 := hd hu6
  have HD6 := hd hd6
  clear hu6 hd6
  go_wp2_with fail
  refine (HOP2.out b w6 HD6.out).mono ?_
  rintro e w7 ⟨⟨kl2, kc2, vl2, rfl, hkl2, hkc2, hl7, hc7, hv7⟩, hu7, hd7⟩
  obtain ⟨g7, cap7, hge, hgB, hgl, -, hgc, hgz⟩ := own_cases hv7 (by decide)
  subst hge
  have c0 := hgc 0 (by decide)
  simp only [strVals, List.map_cons, List.map_nil, List.getElem?_cons_zero, a1] at c0
  have HU7 := hd hu7
  clear hgc hgz hv7 hl7 hc7 hkl2 hkc2 hu7 hd7
  have hlen1 : ([[97]] : List (List UInt8)).length = 1 := rfl
  rw [hlen1]
  go_wp2_with fail
  go_ret
  have hB := HB.out
  have hK := HK.out
  have hs1 := HU1.out.size
  refine ⟨rfl, ?_⟩
  have h7 : Upd [b, kl, kc] w1 w7 := (((((HU2.out.mono (by simp)).trans (HU3.out.mono (by simp))).trans HU4.out).trans (HU5.out.mono (by simp))).trans (HU6.out.mono (by simp))).trans (HU7.out.mono (by simp))
  exact HU1.out.trans' h7 (by intro i hi; simp only [List.mem_cons, List.not_mem_nil, or_false, false_or] at hi ⊢; omega)
end Go.Proofs.Ytjaoiaknglnomaa

/-
  The law TwinLong of layer 12 (chatelainelaw12.TwinLong), walked: it answers true. No condition.
-/
set_option linter.unusedVariables false
set_option linter.unusedSimpArgs false
set_option maxRecDepth 100000
namespace Go.Proofs.Ytjaoiaknglnomaa
open Go.RowKit

/-- So many zeros. -/
def zeros (k : Nat) : List UInt8 := List.replicate k 0
theorem zeros_len (k : Nat) : (zeros k).length = k := by simp [zeros]
theorem zeros_txt (k : Nat) : strOfNums (List.replicate k 0) = txt (zeros k) := by
  unfold strOfNums txt zeros
  rw [List.map_replicate]
  rfl
theorem make_zeros (k : Nat) (hk : k ≤ 1099511627776) (W : World) : (Instr.makeSlice 47 (.int .i64 (k : Int)) (.int .i64 (k : Int))).run Try.prog W = .ok (.slice (some ⟨W.heap.size, 0, none⟩) k k) (W.alloc (.cells (madeCells #[.int .u8 0] k) 5)) := by
  have hex : ((Try.prog.info? 5).bind fun i => i.zero.map fun z => (i.size, i.bytes, z.cells)) = some (1, 1, #[.int .u8 0]) := by kernel_rfl
  cases hi : Try.prog.info? 5 with
  | none => rw [hi] at hex; cases hex
  | some i =>
    rw [hi] at hex
    simp only [Option.bind_some] at hex
    cases hz : i.zero with
    | none => rw [hz] at hex; cases hex
    | some z =>
      rw [hz] at hex
      simp only [Option.map_some, Option.some.injEq, Prod.mk.injEq] at hex
      obtain ⟨h1, h2, h3⟩ := hex
      have := run_make (P := Try.prog) W 47 5 i z Try.underlying47 hi hz .i64 .i64 k k (by omega) (by omega) (by rw [h2]; omega) (by omega)
      rw [h1, h3, Int.toNat_natCast, Nat.mul_one] at this
      exact this
theorem zeros_at (k i : Nat) (h : i < k) : (madeCells #[.int .u8 0] k)[i]? = some (Value.int .u8 0) := by
  have hs : i < (madeCells #[.int .u8 0] k).size := by rw [size_madeCells]; exact h
  rw [Array.getElem?_eq_getElem hs]
  simp [madeCells, Nat.mod_one]

set_option maxHeartbeats 2000000 in
theorem long_law (n : Int) (w : World) : Calls Try.prog 5 #[.int .i64 n] w fun e w' => e = .returned (.bool true) ∧ Upd [] w w' := by
  go_enter Try.func5, Try.ntmps5
  go_wp2_with fail
  refine (awake12_any w).mono ?_
  rintro e w1 ⟨rfl, hu1⟩
  have HU1 := hd hu1
  clear hu1
  go_upto_region 3 with fail
  go_cut [0] from 14 to 17 (fun s0 wx => ∃ k : Nat, k ≤ 524297 ∧ s0 = .int .i64 k ∧ wx = w1)
  case first =>
    rcases (by omega : n < 0 ∨ n = 0 ∨ (0 < n ∧ n < 524297) ∨ n = 524297 ∨ 524297 < n) with h | rfl | ⟨h, h'⟩ | rfl | h
    · go_wp2_with fail
      go_meet
      exact ⟨0, by omega, rfl, rfl⟩
    · go_wp2_with fail
      go_meet
      exact ⟨0, by omega, rfl, rfl⟩
    · go_wp2_with fail
      go_meet
      exact ⟨n.toNat, by omega, congrArg _ (by omega), rfl⟩
    · go_wp2_with fail
      go_meet
      exact ⟨524297, by omega, rfl, rfl⟩
    · go_wp2_with fail
      go_meet
      exact ⟨524297, by omega, rfl, rfl⟩
  case rest =>
    obtain ⟨k, hk, rfl, rfl⟩ := hcut
    have hmk := make_zeros k (by omega) wc
    go_upto_region 5 with fail
    have HZ := hd (Blk.new wc (madeCells #[.int .u8 0] k) 5)
    have HUa := hd (HU1.out.alloc (.cells (madeCells #[.int .u8 0] k) 5))
    have hsa : wc.heap.size < (wc.alloc (.cells (madeCells #[.int .u8 0] k) 5)).heap.size := by simp
    generalize wc.alloc (.cells (madeCells #[.int .u8 0] k) 5) = w2 at *
    clear hmk
    go_wp2_with fail
    refine (new_any 4194304 w2).mono ?_
    rintro e w3 ⟨b, rfl, hb, hu3, hd3⟩
    have hd3 : DiskAt w3 b (bareD 4194304) := hd3
    have hs3 := hu3.size
    have HU3 := hd (HUa.out.trans hu3)
    have HD3 := hd hd3
    have HZ3 := hd (HZ.out.upd hu3 (by simp))
    clear hu3 hd3
    go_wp2_with fail
    refine (topen_any (bareD 4194304) 0 b w3 HD3.out (bare_fine 4194304 (by decide)) (by decide) (by decide)).mono ?_
    rintro e w4 ⟨ho, hu4, hd4⟩
    have hbo : (bareD 4194304).openIt 0 = (some 0, [], 0, bareD 4194304) := bare_open 4194304 0 (by decide)
    have HBO := hd hbo
    rw [hbo] at ho hd4
    obtain ⟨kc, hkc, rfl, hc4⟩ := ho
    have HKC := hd hkc
    have HU4 := hd (HU3.out.trans' hu4 (by intro i hi; have := HU1.out.size; simp at hi; omega))
    have HD4 := hd hd4
    have HC4 := hd hc4
    have HZ4 := hd (HZ3.out.upd hu4 (by simp; omega))
    have hne : kc ≠ b := blk_ne hc4 hd4 (by decide)
    have hs4 := hu4.size
    clear hkc hu4 hd4 hc4 hbo HU3 HD3 HZ3 HZ HUa
    have hcv : (Go.convert 47 9 (.slice (some ⟨wc.heap.size, 0, none⟩) k k)).run Try.prog w4 = .ok (.string (txt (zeros k))) w4 := by
      have := run_convert_bytes_arg (P := Try.prog) w4 47 5 Try.underlying47 Try.underlying5 wc.heap.size 0 k k (List.replicate k 0) (by simp) (fun i hi => by
        rw [Nat.zero_add, HZ4.out.cell i, zeros_at k i hi]
        simp [List.getD_eq_getElem?_getD, List.getElem?_replicate, hi]) 9 Try.underlying9
      rw [zeros_txt] at this
      exact this
    have HF := hd (bare_fine 4194304 (by decide))
    go_wp2_with fail
    refine (cwrite_any (bareD 4194304) 0 0 (zeros k) kc b w4 HD4.out HC4.out HF.out (by decide) (by decide) (by decide) (by rw [zeros_len]; omega)).mono ?_
    rintro e w5 ⟨rfl, hu5, hd5, hc5⟩
    by_cases hkk : 524288 < k
    · have hw : (bareD 4194304).writeIt 0 0 (zeros k) = (6, bareD 4194304, 0) := by unfold DiskS.writeIt; rw [if_pos (by rw [zeros_len]; exact hkk)]
      rw [hw] at hd5 hc5 ⊢
      have hkk' : (524288 : Int) < (k : Int) := by omega
      have HU5 := hd (HU4.out.trans' hu5 (by intro i hi; have := HU1.out.size; have := HKC.out; simp at hi; omega))
      have HD5 := hd hd5
      have HC5 := hd hc5
      have hs5 := hu5.size
      clear hw hu5 hd5 hc5 hcv
      go_wp2_with fail
      refine (topen_any (bareD 4194304) 0 b w5 HD5.out HF.out (by decide) (by decide)).mono ?_
      rintro e w6 ⟨ho, hu6, hd6⟩
      rw [HBO.out] at ho
      obtain ⟨kd, hkd, rfl, hc6⟩ := ho
      have HU6 := hd (HU5.out.trans' hu6 (by intro i hi; have := HU1.out.size; simp at hi; omega))
      have HC6 := hd (HC5.out.upd hu6 (by simpa using hne))
      have hte : (txt []).toList = [] := txt_list []
      clear hkd hu6 hd6 hc6
      go_wp2_with fail
      refine (version_any kc b 0 0 w6 HC6.out).mono ?_
      rintro e w7 ⟨rfl, rfl⟩
      go_wp2_with fail
      go_ret
      exact ⟨rfl, HU6.out⟩
    · have hw : (bareD 4194304).writeIt 0 0 (zeros k) = (0, (bareD 4194304).wrote 0 1 (zeros k), 1) := bare_write 4194304 0 (by decide) (zeros k) (by rw [zeros_len]; omega) (by rw [zeros_len]; omega)
      rw [hw] at hd5 hc5 ⊢
      have hkk' : ¬ (524288 : Int) < (k : Int) := by omega
      have HU5 := hd (HU4.out.trans' hu5 (by intro i hi; have := HU1.out.size; have := HKC.out; simp at hi; omega))
      have HD5 := hd hd5
      have hs5 := hu5.size
      have HF5 := hd (wrote_fine (bareD 4194304) 0 1 (zeros k) HF.out (by rw [zeros_len]; omega))
      have HO5 := hd (show ((bareD 4194304).wrote 0 1 (zeros k)).openIt 0 = (some 1, zeros k, 0, (bareD 4194304).wrote 0 1 (zeros k)) from open_wrote (bareD 4194304) 0 1 (zeros k) (by decide) (by decide) (by decide) (by rw [zeros_len]; omega))
      have hzl := zeros_len k
      generalize (bareD 4194304).wrote 0 1 (zeros k) = D5 at *
      generalize zeros k = Z at *
      clear hw hu5 hd5 hc5 hcv
      go_wp2_with fail
      refine (topen_any D5 0 b w5 HD5.out HF5.out (by decide) (by decide)).mono ?_
      rintro e w6 ⟨ho, hu6, hd6⟩
      rw [HO5.out] at ho
      obtain ⟨kd, hkd, rfl, hc6⟩ := ho
      have HU6 := hd (HU5.out.trans' hu6 (by intro i hi; have := HU1.out.size; simp at hi; omega))
      clear hkd hu6 hd6 hc6
      go_wp2_with fail
      go_ret
      exact ⟨rfl, HU6.out⟩
end Go.Proofs.Ytjaoiaknglnomaa

/-
  The law WalBig of layer 13, walked: it answers true. No condition.
-/
set_option linter.unusedVariables false
set_option linter.unusedSimpArgs false
set_option maxRecDepth 100000
namespace Go.Proofs.Ytjaoiaknglnomaa
open Go.RowKit

theorem big_caps : Caps 270000 1048576 := ⟨by decide, by decide, by decide⟩
theorem base_fail {C : Nat} {R : Int} {d : DiskS} {g n : Nat} {L : List (List UInt8)} {J : List UInt8} {k v : Nat} (h : Base C R d g n L J k v) : 0 ≤ d.fail := by
  obtain ⟨_, _, _, _, _, _, _, h, _⟩ := h; exact h

set_option maxHeartbeats 4000000 in
theorem big_law (n : Int) (w : World) : Calls Try.prog 10 #[.int .i64 n] w fun e w' => e = .returned (.bool true) ∧ Upd [] w w' := by
  go_enter Try.func10, Try.ntmps10
  go_wp2_with fail
  refine (wawake_any w).mono ?_
  rintro e w1 ⟨rfl, hu1⟩
  have HU1 := hd hu1
  clear hu1
  go_upto_region 3 with fail
  go_cut [0] from 14 to 16 (fun s0 wx => ∃ k : Nat, k ≤ 262153 ∧ s0 = .int .i64 k ∧ wx = w1)
  case first =>
    rcases (by omega : n < 0 ∨ n = 0 ∨ (0 < n ∧ n < 262153) ∨ n = 262153 ∨ 262153 < n) with h | rfl | ⟨h, h'⟩ | rfl | h
    · go_wp2_with fail
      go_meet
      exact ⟨0, by omega, rfl, rfl⟩
    · go_wp2_with fail
      go_meet
      exact ⟨0, by omega, rfl, rfl⟩
    · go_wp2_with fail
      go_meet
      exact ⟨n.toNat, by omega, congrArg _ (by omega), rfl⟩
    · go_wp2_with fail
      go_meet
      exact ⟨262153, by omega, rfl, rfl⟩
    · go_wp2_with fail
      go_meet
      exact ⟨262153, by omega, rfl, rfl⟩
  case rest =>
    obtain ⟨k, hk, rfl, rfl⟩ := hcut
    go_wp2_with fail
    refine (new_any 1048576 wc).mono ?_
    rintro e w3 ⟨b, rfl, hb, hu3, hd3⟩
    have hd3 : DiskAt w3 b (bareD 1048576) := hd3
    have hs0 := HU1.out.size
    have HU3 := hd (HU1.out.trans hu3)
    have HD3 := hd hd3
    have hs3 := hu3.size
    clear hu3 hd3
    have hl0 : ∀ t ∈ ([] : List (List UInt8)), t.length ≤ 262144 := by simp
    have HLV := hd (live_bare 270000 1048576)
    have HF := hd (base_safe big_caps hl0 (live_bare 270000 1048576)).1
    go_wp2_with fail
    refine (wopen_live big_caps (by decide) HLV.out ⟨by decide, by decide, by decide, hl0⟩ (by decide) b w3 HD3.out).mono ?_
    rintro e w4 ⟨⟨kl, kc, vl, rfl, hkl, hkc, hl4, hc4, hv4⟩, hu4, hd4⟩
    obtain ⟨a, cap, rfl, -⟩ := own_open hv4
    have HU4 := hd (HU3.out.trans' hu4 (by intro i hi; simp at hi; omega))
    have HD4 := hd hd4
    have HL4 := hd hl4
    have HC4 := hd hc4
    have hs4 := hu4.size
    clear hu4 hd4 hl4 hc4 hv4
    have hmk := make_zeros k (by omega) w4
    have hcv : (Go.convert 47 9 (.slice (some ⟨w4.heap.size, 0, none⟩) k k)).run Try.prog (w4.alloc (.cells (madeCells #[.int .u8 0] k) 5)) = .ok (.string (txt (zeros k))) (w4.alloc (.cells (madeCells #[.int .u8 0] k) 5)) := by
      have HZ := Blk.new w4 (madeCells #[.int .u8 0] k) 5
      have := run_convert_bytes_arg (P := Try.prog) (w4.alloc (.cells (madeCells #[.int .u8 0] k) 5)) 47 5 Try.underlying47 Try.underlying5 w4.heap.size 0 k k (List.replicate k 0) (by simp) (fun i hi => by
        rw [Nat.zero_add, HZ.cell i, zeros_at k i hi]
        simp [List.getD_eq_getElem?_getD, List.getElem?_replicate, hi]) 9 Try.underlying9
      rw [zeros_txt] at this
      exact this
    have hu5 : Upd [] w4 (w4.alloc (.cells (madeCells #[.int .u8 0] k) 5)) := (Upd.refl _ _).alloc _
    have HU5 := hd (HU4.out.trans hu5)
    have HD5 := hd (HD4.out.upd hu5 (by simp))
    have HL5 := hd (HL4.out.upd hu5 (by simp))
    have HC5 := hd (HC4.out.upd hu5 (by simp))
    have hs5 := hu5.size
    have hwc := HU5.out.size
    generalize hW5 : w4.alloc (.cells (madeCells #[.int .u8 0] k) 5) = w5 at *
    clear hu5 HU4 HD4 HL4 HC4
    have hne2 : kc ≠ b := blk_ne HC5.out HD5.out (by decide)
    have hne3 : kc ≠ kl := blk_ne HC5.out HL5.out (by decide)
    have HK := hd (And.intro hb (And.intro hkl hkc))
    by_cases hkk : 262144 < k
    · have hkk' : (262144 : Int) < (k : Int) := by omega
      have HAP := hd (wappend_any (bareD 1048576) (lgOf 0 0 []) (zeros k) kl kc b w5 HD5.out HL5.out HF.out (by decide) (by rw [zeros_len]; omega) (by decide) (by decide) (by decide))
      have e1 : walAppend (bareD 1048576) (lgOf 0 0 []) (zeros k) = (6, bareD 1048576, lgOf 0 0 []) := if_pos (by rw [zeros_len]; exact hkk)
      rw [e1] at HAP
      simp only at HAP
      clear e1
      go_wp2_with fail
      refine HAP.out.mono ?_
      rintro e w6 ⟨rfl, hu6, hd6, hl6⟩
      have HU6 := hd (HU5.out.trans' hu6 (by intro i hi; simp at hi; omega))
      have HC6 := hd (HC5.out.upd hu6 (by simp [hne2, hne3]))
      have HD6 := hd hd6
      have HL6 := hd hl6
      have hs6 := hu6.size
      clear hu6 hd6 hl6 hcv HAP hmk
      go_wp2_with fail
      refine (wsync_live big_caps (by decide) HLV.out ⟨by decide, by decide, by decide, hl0⟩ kl kc b w6 HD6.out HL6.out HC6.out).mono ?_
      rintro e w7 ⟨d7, hf7, hu7, hd7, hr7⟩
      rcases hr7 with ⟨rfl, v7, _, hv7, _, _, hlv7⟩ | ⟨hz, _⟩
      rotate_left
      · exact absurd rfl hz
      have HU7 := hd (HU6.out.trans' hu7 (by intro i hi; simp at hi; omega))
      have HD7 := hd hd7
      have HL7 := hd hlv7
      have hs7 := hu7.size
      have hv7' := hd hv7
      clear hu7 hd7 hlv7 hf7 hv7
      go_wp2_with fail
      refine (wopen_live big_caps (by decide) HL7.out ⟨by decide, by have := hv7'.out; omega, by decide, hl0⟩ (by decide) b w7 HD7.out).mono ?_
      rintro e w8 ⟨⟨kl2, kc2, vl2, rfl, hkl2, hkc2, hl8, hc8, hv8⟩, hu8, hd8⟩
      obtain ⟨a8, cap8, rfl, -⟩ := own_open hv8
      have HU8 := hd (HU7.out.trans' hu8 (by intro i hi; simp at hi; omega))
      have hlen0 : ([] : List (List UInt8)).length = 0 := rfl
      rw [hlen0]
      clear hl8 hc8 hv8 hu8 hd8
      go_wp2_with fail
      go_ret
      exact ⟨rfl, HU8.out⟩
    · have hkk' : ¬ (262144 : Int) < (k : Int) := by omega
      have hl1 : ∀ t ∈ [zeros k], t.length ≤ 262144 := by intro t ht; simp at ht; subst ht; rw [zeros_len]; omega
      have hE : ∀ g, (encL g [zeros k]).length ≤ 270000 := fun g => by
        have h1 := spell_len g (zeros k)
        have h2 := in_len g (zeros k) (by rw [zeros_len]; omega)
        have h3 : encL g [zeros k] = spellL g (zeros k) := by simp [encL]
        rw [h3]; omega
      go_wp2_with fail
      refine (wappend_live big_caps (by decide) HLV.out ⟨by decide, by decide, by decide, hl0⟩ (zeros k) (by rw [zeros_len]; omega) (hE 0) kl kc b w5 HD5.out HL5.out HC5.out).mono ?_
      rintro e w6 ⟨d6, hf6, hu6, hd6, hc6, hr6⟩
      rcases hr6 with ⟨rfl, hl6, hlv6⟩ | ⟨hz, _⟩
      rotate_left
      · exact absurd rfl hz
      have hf6' : d6.fail = 0 := by have h1 := base_fail hlv6; have h2 : d6.fail ≤ 0 := hf6; omega
      have HU6 := hd (HU5.out.trans' hu6 (by intro i hi; simp at hi; omega))
      have HC6 := hd hc6
      have HD6 := hd hd6
      have HL6 := hd hl6
      have HLV6 := hd hlv6
      have hs6 := hu6.size
      clear hu6 hd6 hl6 hc6 hcv hf6 hlv6 hmk
      rw [List.nil_append] at HL6 HLV6
      go_wp2_with fail
      refine (wsync_live big_caps (by decide) HLV6.out ⟨by decide, by decide, by simp, hl1⟩ kl kc b w6 HD6.out HL6.out HC6.out).mono ?_
      rintro e w7 ⟨d7, hf7, hu7, hd7, hr7⟩
      rcases hr7 with ⟨rfl, v7, _, hv7, _, _, hlv7⟩ | ⟨hz, _⟩
      rotate_left
      · exact absurd hf6' hz
      have HU7 := hd (HU6.out.trans' hu7 (by intro i hi; simp at hi; omega))
      have HD7 := hd hd7
      have HL7 := hd hlv7
      have hs7 := hu7.size
      have hv7' := hd hv7
      clear hu7 hd7 hlv7 hf7 hv7
      go_wp2_with fail
      refine (wopen_live big_caps (by decide) HL7.out ⟨by decide, by have := hv7'.out; omega, by simp, hl1⟩ (by have := hE (0 + 1); omega) b w7 HD7.out).mono ?_
      rintro e w8 ⟨⟨kl2, kc2, vl2, rfl, hkl2, hkc2, hl8, hc8, hv8⟩, hu8, hd8⟩
      obtain ⟨g8, cap8, hge, hgB, hgl, -, hgc, hgz⟩ := own_cases hv8 (by simp)
      subst hge
      have c0 := hgc 0 (by simp)
      simp only [strVals, List.map_cons, List.map_nil, List.getElem?_cons_zero] at c0
      have HU8 := hd (HU7.out.trans' hu8 (by intro i hi; simp at hi; omega))
      have hzl := zeros_len k
      have hlen1 : [zeros k].length = 1 := rfl
      rw [hlen1]
      clear hl8 hc8 hv8 hu8 hd8 hgc hgz hkl2 hkc2
      go_wp2_with fail
      go_ret
      exact ⟨rfl, HU8.out⟩
end Go.Proofs.Ytjaoiaknglnomaa
