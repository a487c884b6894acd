/-
  Laws of the walk at single operations whose new world is left a variable: a string turned into bytes, and back. No condition beyond those that each theorem states.
-/
import Derived.Test.YtfhmdeamhmjddaaDoorBase
import Derived.OwnWalk
import Derived.Lib.ConvBytes
import Derived.Laws.BytesArg
import Derived.Laws.BitsAllLaws
set_option linter.unusedVariables false
namespace Go.Proofs.YtfhmdeamhmjddaaDoor
open Go.RowKit

/-- One operation that yields a value: what is known of it and of the world behind it is all that is handed on. -/
theorem wpList_run {P : Program} {ops : Array Oper} {rest : List Oper} {o : Oper} {a : Act} {w : World} {Q : Exit → Act → World → Prop} (hg : o.guard = none) (R : Value → World → Prop)
    (hrun : ∃ v w', (execOp a.eval o).run P w = .ok (.value v) w' ∧ R v w') (h : ∀ v w', R v w' → wpList P ops Q rest (a.put o.dst v) w') : wpList P ops Q (o :: rest) a w := by
  refine wpList_plain hg fun K hK => ?_
  obtain ⟨v, w', hr, hR⟩ := hrun
  unfold Oper.wp
  rw [hr]
  exact hK _ _ (h v w' hR)

/-- Bytes in a row of memory, from place o on. -/
def BytesAt (w : World) (k o : Nat) (s : ByteArray) : Prop := ∀ i, i < s.size → w.cell? ⟨k, o + i, none⟩ = some (.int .u8 ((s.data.toList.getD i 0).toNat : Int))

theorem wpList_conv_bytes {P : Program} {ops : Array Oper} {rest : List Oper} {o : Oper} {a : Act} {w : World} {Q : Exit → Act → World → Prop} (hg : o.guard = none) (src dst e : TypeId) (x : Operand) (ho : o.op = .convert src dst x)
    (s : ByteArray) (hx : a.eval x = .string s) {u : TypeDesc} (hs : P.underlying src = some u) (hd : P.underlying dst = some (.slice e)) (he : P.underlying e = some (.int .u8))
    (h : ∀ k c w', w.heap.size ≤ k → k < w'.heap.size → s.size ≤ c → Upd [] w w' → BytesAt w' k 0 s → (∀ i, i < s.size → w'.frozen? ⟨k, i, none⟩ = false) → wpList P ops Q rest (a.put o.dst (.slice (some ⟨k, 0, none⟩) s.size c)) w') :
    wpList P ops Q (o :: rest) a w := by
  refine wpList_run hg (fun v w' => v = .slice (some ⟨w.heap.size, 0, none⟩) s.size (grownCap w s.size 0 e) ∧ w' = Lib.bytesWorld w e s) ⟨_, _, ?_, rfl, rfl⟩ ?_
  · unfold execOp
    simp only [ho, hx, Sem.run_bind, Lib.run_convert_string_bytes w src dst e s hs hd he, Result.andThen_ok, Sem.run_pure]
  · rintro _ _ ⟨rfl, rfl⟩
    refine h w.heap.size _ _ (Nat.le_refl _) (by rw [Lib.bytesWorld_size]; omega) (grownCap_ge _ _ _ _) ⟨?_, ?_, ?_, by rw [Lib.bytesWorld_size]; omega, fun k hk _ => Lib.bytesWorld_at_old w e s k hk⟩ (fun i hi => by rw [Nat.zero_add]; exact Lib.bytesWorld_cell w e s i hi) (fun i hi => ?_)
    · rfl
    · rfl
    · rfl
    · simp only [World.frozen?, Lib.bytesWorld_at_new]
      have : (Lib.bytesCells w e s).size ≥ s.size := by simp [Lib.bytesCells]
      simp; omega

theorem wpList_conv_string {P : Program} {ops : Array Oper} {rest : List Oper} {o : Oper} {a : Act} {w : World} {Q : Exit → Act → World → Prop} (hg : o.guard = none) (src dst e : TypeId) (x : Operand) (ho : o.op = .convert src dst x)
    (k of n c : Nat) (s : ByteArray) (hx : a.eval x = .slice (some ⟨k, of, none⟩) n c) (hs : P.underlying src = some (.slice e)) (he : P.underlying e = some (.int .u8)) (hd : P.underlying dst = some .string)
    (hn : s.size = n) (hb : BytesAt w k of s) (h : wpList P ops Q rest (a.put o.dst (.string s)) w) : wpList P ops Q (o :: rest) a w := by
  have hr := run_convert_bytes_arg (P := P) w src e hs he k of n c (s.data.toList.map fun b => (b.toNat : Int)) (by simpa using hn) (fun i hi => by
    have hi' : i < s.data.size := by have : s.data.size = n := hn; omega
    rw [hb i (by omega)]
    have h1 : s.data[i]? = some s.data[i] := Array.getElem?_eq_getElem hi'
    simp [List.getD, h1]) dst hd
  have e1 : strOfNums (s.data.toList.map fun b => (b.toNat : Int)) = s := by
    simp only [strOfNums, List.map_map]
    apply ByteArray.ext
    simp [Function.comp_def]
  rw [e1] at hr
  refine wpList_run hg (fun v w' => v = .string s ∧ w' = w) ⟨_, _, ?_, rfl, rfl⟩ (by rintro _ _ ⟨rfl, rfl⟩; exact h)
  unfold execOp
  simp only [ho, hx, Sem.run_bind, hr, Result.andThen_ok, Sem.run_pure]

/-! ### Rows that the call owns -/

theorem Upd.of_grown {w w' : World} {row : Option Nat} (h : w.grownBy w' row) : Upd row.toList w w' :=
  ⟨h.os, h.tape, h.output, h.size, fun k hk hn => h.block k hk (fun e => by cases row with | none => cases e | some r => cases e; simp at hn)⟩

theorem own_cases {w : World} {B T sz : Nat} {v : Value} {n : Nat} {xs : List Value} (h : w.ownsRow B T sz v n xs) (hn : 0 < n) :
    ∃ g cap, v = .slice (some ⟨g, 0, none⟩) n cap ∧ B ≤ g ∧ g < w.heap.size ∧ n ≤ cap ∧ (∀ j, j < n * sz → w.cell? ⟨g, j, none⟩ = xs[j]?) ∧ (∀ j, w.frozen? ⟨g, j, none⟩ = false) := by
  obtain ⟨hl, h⟩ := h
  rcases h with ⟨_, rfl⟩ | ⟨g, cap, cur, rfl, hb, hg, hnc, hcm, hcs, ht⟩
  · omega
  · refine ⟨g, cap, rfl, hb, ?_, hnc, fun j hj => ?_, fun j => Blk.frozen hg j⟩
    · exact Blk.lt hg
    · rw [Blk.cell hg j, ← ht, List.getElem?_take, if_pos hj]; simp

theorem own_upd {w w' : World} {B T sz : Nat} {v : Value} {n : Nat} {xs : List Value} {L : List Nat} (h : w.ownsRow B T sz v n xs) (hu : Upd L w w') (hL : ∀ g, v.ownBlock = some g → g ∉ L) : w'.ownsRow B T sz v n xs := by
  refine ⟨h.1, ?_⟩
  rcases h.2 with hn | ⟨g, cap, cur, rfl, hb, hg, rest⟩
  · exact .inl hn
  · exact .inr ⟨g, cap, cur, rfl, hb, Blk.upd hg hu (hL g rfl), rest⟩

theorem own_mono {w : World} {B B' T sz : Nat} {v : Value} {n : Nat} {xs : List Value} (h : w.ownsRow B T sz v n xs) (hB : B' ≤ B) : w.ownsRow B' T sz v n xs := by
  refine ⟨h.1, ?_⟩
  rcases h.2 with hn | ⟨g, cap, cur, rfl, hb, rest⟩
  · exact .inl hn
  · exact .inr ⟨g, cap, cur, rfl, Nat.le_trans hB hb, rest⟩

theorem own_ne_blk {w : World} {B T sz k T' : Nat} {c : Array Value} {g cap n : Nat} {xs : List Value} (h : w.ownsRow B T sz (.slice (some ⟨g, 0, none⟩) n cap) n xs) (hb : Blk w k c T') (hT : T ≠ T') : g ≠ k := by
  rintro rfl
  obtain ⟨_, h⟩ := h
  rcases h with ⟨he, _⟩ | ⟨g', cap', cur, he, hb', hg, _⟩
  · cases he
  · simp only [Value.slice.injEq, Option.some.injEq, Addr.mk.injEq, and_true, true_and] at he
    obtain ⟨rfl, rfl⟩ := he
    rw [Blk, hg] at hb
    simp only [Option.some.injEq, Obj.cells.injEq] at hb
    exact hT hb.2.1

theorem own_set {w : World} {B T sz : Nat} {g n cap : Nat} {xs : List Value} (h : w.ownsRow B T sz (.slice (some ⟨g, 0, none⟩) n cap) n xs) (j : Nat) (hj : j < n * sz) (u : Value) : (w.setCell ⟨g, j, none⟩ u).ownsRow B T sz (.slice (some ⟨g, 0, none⟩) n cap) n (xs.set j u) := by
  obtain ⟨hl, h⟩ := h
  refine ⟨by simpa using hl, ?_⟩
  rcases h with ⟨he, _⟩ | ⟨g', cap', cur, he, hb, hg, hnc, hcm, hcs, ht⟩
  · cases he
  · simp only [Value.slice.injEq, Option.some.injEq, Addr.mk.injEq, and_true, true_and] at he
    obtain ⟨rfl, rfl⟩ := he
    exact .inr ⟨g, cap, cur.setIfInBounds j u, rfl, hb, Blk.set hg j u, hnc, hcm, by simpa using hcs, by rw [← ht]; simp [List.take_set]⟩

end Go.Proofs.YtfhmdeamhmjddaaDoor
