/-
  accept.Acceptor.Trim (by slices.DeleteFunc), walked. Conditions: those that each theorem states.
-/
import Derived.Test.YtfhmdeamhmjddaaAsk1
set_option linter.unusedVariables false
set_option linter.unusedSimpArgs false
set_option maxRecDepth 100000
namespace Go.Proofs.Ytfhmdeamhmjddaa
open Go.RowKit Go.Lib

/-- What Trim keeps. -/
def keptBy (base : Int) (e : EntS) : Bool := decide (base < e.slot)
/-- The first place of an entry that goes. -/
def firstGone (l : List EntS) (base : Int) : Nat := (l.takeWhile (keptBy base)).length

/-- The same as slices.IndexFunc says it. -/
def goneAt (l : List EntS) (base : Int) : Int := if firstGone l base < l.length then (firstGone l base : Int) else -1

theorem takeWhile_len (p : EntS → Bool) (l : List EntS) (k : Nat) (hk : k ≤ l.length) (h1 : ∀ t (ht : t < l.length), t < k → p l[t] = true) (h2 : ∀ h : k < l.length, p l[k] = false) : (l.takeWhile p).length = k := by
  induction l generalizing k with
  | nil => simp at hk; subst hk; rfl
  | cons a t ih =>
    cases k with
    | zero =>
      have := h2 (by simp)
      simp at this
      rw [List.takeWhile_cons_of_neg (by simpa using this)]
      rfl
    | succ k =>
      have := h1 0 (by simp) (by omega)
      simp at this
      rw [List.takeWhile_cons_of_pos this]
      simp only [List.length_cons]
      rw [ih k (by simpa using hk) (fun t ht hk => by have := h1 (t + 1) (by simpa using ht) (by omega); rwa [List.getElem_cons_succ] at this) (fun h => by have := h2 (by simpa using h); rwa [List.getElem_cons_succ] at this)]

theorem gone_any (s c k base : Int) (t : ByteArray) (q : Nat) (w : World) (hq : w.cell? ⟨q, 0, none⟩ = some (.int .i64 base)) :
    Calls Try.prog 49 #[.agg #[.int .i64 s, .int .u64 c, .int .i64 k, .string t], .pointer (some ⟨q, 0, none⟩)] w fun r w' => r = .returned (.bool (decide (s ≤ base))) ∧ Upd [] w w' := by
  have hql : q < w.heap.size := World.block_lt_of_cell? w _ hq
  go_enter Try.func49, Try.ntmps49
  go_wp2
  go_ret
  exact ⟨rfl, (Upd.refl _ _).alloc _⟩

/-- The cells of the entry at place t of a row at g. -/
theorem row_cells {w : World} {g : Nat} {l : List EntS} (h : ∀ j, j < l.length * 4 → w.cell? ⟨g, j, none⟩ = (entCells l)[j]?) (t : Nat) (ht : t < l.length) :
    w.cell? ⟨g, t * 4, none⟩ = some (.int .i64 l[t].slot) ∧ w.cell? ⟨g, t * 4 + 1, none⟩ = some (.int .u64 l[t].bal.c) ∧ w.cell? ⟨g, t * 4 + 2, none⟩ = some (.int .i64 l[t].bal.n) ∧ w.cell? ⟨g, t * 4 + 3, none⟩ = some (.string l[t].text) := by
  refine ⟨?_, ?_, ?_, ?_⟩
  · rw [h _ (by omega)]; exact entCells_get l t ht 0 (by omega)
  · rw [h _ (by omega)]; exact entCells_get l t ht 1 (by omega)
  · rw [h _ (by omega)]; exact entCells_get l t ht 2 (by omega)
  · rw [h _ (by omega)]; exact entCells_get l t ht 3 (by omega)

set_option maxHeartbeats 1000000 in
theorem index_any (B : Nat) (v : Value) (l : List EntS) (base : Int) (q : Nat) (w : World) (h : w.ownsRow B 85 4 v l.length (entCells l)) (hl : l.length ≤ 1024) (hq : w.cell? ⟨q, 0, none⟩ = some (.int .i64 base)) :
    Calls Try.prog 73 #[v, .func (.func 49) #[] #[.pointer (some ⟨q, 0, none⟩)]] w fun r w' =>
      r = .returned (.int .i64 (goneAt l base)) ∧ Upd [] w w' := by
  have HGA := hd (show goneAt l base = if firstGone l base < l.length then (firstGone l base : Int) else -1 from rfl)
  obtain ⟨a, cap, rfl, hcap, hcm, hrow⟩ := own_open h
  have hql : q < w.heap.size := World.block_lt_of_cell? w _ hq
  have hcell : ∀ wr, Upd [] w wr → ∀ t (ht : t < l.length), ∃ g, a = some ⟨g, 0, none⟩ ∧ wr.cell? ⟨g, t * 4, none⟩ = some (.int .i64 l[t].slot) ∧ wr.cell? ⟨g, t * 4 + 1, none⟩ = some (.int .u64 l[t].bal.c) ∧
      wr.cell? ⟨g, t * 4 + 2, none⟩ = some (.int .i64 l[t].bal.n) ∧ wr.cell? ⟨g, t * 4 + 3, none⟩ = some (.string l[t].text) := by
    intro wr hu t ht
    obtain ⟨g, rfl, hg, hgl, hc, hf⟩ := hrow (by omega)
    exact ⟨g, rfl, row_cells (fun j hj => by rw [← hc j hj]; exact World.cell?_of_block (hu.block g hgl (by simp))) t ht⟩
  have HC := hd hcell
  have HQ := hd (fun wr (hu : Upd [] w wr) => (World.cell?_of_block (a := ⟨q, 0, none⟩) (hu.block q hql (by simp))).trans hq)
  clear hcell hrow h hcm hq
  go_enter Try.func73, Try.ntmps73
  go_wp2_with fail
  go_loopw [8] (fun c wr => ∃ t : Nat, c = .int .i64 t ∧ t ≤ l.length ∧ Upd [] w wr ∧ Hd (∀ u (hu : u < l.length), u < t → keptBy base l[u] = true)) (fun c _ => l.length - (intOf c).toNat)
  case atStart => exact ⟨0, rfl, Nat.zero_le _, Upd.refl _ _, hd fun u hu h => by omega⟩
  case round =>
    obtain ⟨t, rfl, ht, hu, hI⟩ := hrel
    have HU := hd hu
    by_cases htl : t < l.length
    · obtain ⟨g, rfl, c0, c1, c2, c3⟩ := HC.out wr hu t htl
      have hqc := HQ.out wr hu
      have htl' : (t : Int) < (l.length : Int) := by omega
      clear hu
      have HK := hd (show keptBy base l[t] = decide (base < l[t].slot) from rfl)
      have HT := hd htl
      have HFG := hd (show keptBy base l[t] = false → firstGone l base = t from fun h => takeWhile_len _ l t ht hI.out (fun _ => h))
      have HNX := hd (show keptBy base l[t] = true → ∀ u (hu : u < l.length), u < t + 1 → keptBy base l[u] = true from fun h u hu hlt => by
        rcases Nat.lt_or_ge u t with h1 | h1
        · exact hI.out u hu h1
        · obtain rfl : u = t := by omega
          exact h)
      generalize l[t]'_ = e at *
      obtain ⟨s, ⟨c, k⟩, tx⟩ := e
      simp only at c0 c1 c2 c3 HK
      by_cases hsb : s ≤ base
      · have hsb' : decide (s ≤ base) = true := decide_eq_true hsb
        go_wp2_with ((with_reducible refine (gone_any _ _ _ _ _ _ _ hqc).mono ?_); rintro e w' ⟨rfl, hu⟩; have HU1 := hd hu; clear hu)
        go_ret
        rw [HGA.out, HFG.out (by rw [HK.out]; simp; omega), if_pos htl]
        exact ⟨rfl, HU.out.trans HU1.out⟩
      · have hsb' : decide (s ≤ base) = false := decide_eq_false hsb
        go_wp2_with ((with_reducible refine (gone_any _ _ _ _ _ _ _ hqc).mono ?_); rintro e w' ⟨rfl, hu⟩; have HU1 := hd hu; clear hu)
        go_roundw
        case rel => exact ⟨t + 1, by go_num, by omega, HU.out.trans HU1.out, hd (HNX.out (by rw [HK.out]; simp; omega))⟩
        case measure => simp [intOf]; omega
    · obtain rfl : t = l.length := by omega
      have HFG := hd (show firstGone l base = l.length from takeWhile_len _ l _ (Nat.le_refl _) hI.out (fun h => by omega))
      clear hu
      go_wp2_with fail
      go_ret
      rw [HGA.out, HFG.out, if_neg (by omega)]
      exact ⟨rfl, HU.out⟩

theorem run_clear_many {P : Program} (w : World) (t e ty : TypeId) (z : Value) (ht : P.underlying t = some (.slice e)) (hv : ∀ w, (zeroValue e).run P w = .ok z w) (b o n c : Nat) (hn : 0 < n)
    (hc : ∀ j, j < n * z.cells.size → (w.cell? ⟨b, o + j, none⟩).isSome = true) (hf : ∀ j, j < n * z.cells.size → w.frozen? ⟨b, o + j, none⟩ = false) (h1 : ∀ v ∈ (Builtin.zeroCells z.cells n).toList, v.oneCell' = true) :
    (Builtin.clear_ #[t] ty #[.slice (some ⟨b, o, none⟩) n c]).run P w = .ok (.tuple #[]) (w.setCells b o (Builtin.zeroCells z.cells n).toList) := by
  have hl : (Builtin.zeroCells z.cells n).toList.length = n * z.cells.size := by simp [Builtin.zeroCells]
  have hst := run_storeCells_cells (P := P) b o (Builtin.zeroCells z.cells n).toList 0 w (by rw [hl]; simpa using hc) (by rw [hl]; simpa using hf) h1
  simp only [Nat.add_zero] at hst
  obtain ⟨m, rfl⟩ : ∃ m, n = m + 1 := ⟨n - 1, by omega⟩
  simp [Builtin.clear_, run_underlying ht, hv, hst]
theorem wpList_clear_run {P : Program} (w : World) {ops : Array Oper} {rest : List Oper} {o : Oper} {a : Act} {Q : Exit → Act → World → Prop} (hgd : o.guard = none) (s : Operand) (t : TypeId)
    (ho : o.op = .call { callee := .builtin .clear, args := #[s], argTypes := #[t] }) (v : Value) (hs : a.eval s = v) {v' : Value} {w' : World}
    (hr : (Builtin.clear_ #[t] o.type #[v]).run P w = .ok v' w') (h : wpList P ops Q rest (a.put o.dst v') w') : wpList P ops Q (o :: rest) a w :=
  wpList_plain hgd fun K hK => by
    unfold Oper.wp execOp
    simp only [ho, resolve, invoke, builtin, Sem.run_bind, Sem.run_pure, Result.andThen_ok, List.map_toArray, List.map_cons, List.map_nil, hs, hr]
    exact hK _ _ h

/-- Of a list of entries, the first i have been settled: they are what is kept of the first j of l; those from j on stand as in l. -/
structure Sifted (l C : List EntS) (base : Int) (i j : Nat) : Prop where
  len : C.length = l.length
  le : i ≤ j
  front : C.take i = (l.take j).filter (keptBy base)
  back : C.drop j = l.drop j

theorem sifted_step (l C : List EntS) (base : Int) (i j : Nat) (h : Sifted l C base i j) (hij : i < j) (hj : j < l.length) (hk : keptBy base l[j] = true) : Sifted l (C.set i l[j]) base (i + 1) (j + 1) := by
  have hlen := h.len
  refine ⟨by simpa using h.len, by omega, ?_, ?_⟩
  · rw [List.take_succ_eq_append_getElem (by omega) (l := l), List.filter_append, ← h.front]
    rw [List.take_succ_eq_append_getElem (by simp; omega)]
    rw [List.take_set_of_le (by omega)]
    simp [hk]
  · rw [List.drop_set_of_lt (by omega)]
    have := congrArg (List.drop 1) h.back
    simpa [List.drop_drop, Nat.add_comm] using this
theorem sifted_skip (l C : List EntS) (base : Int) (i j : Nat) (h : Sifted l C base i j) (hj : j < l.length) (hk : keptBy base l[j] = false) : Sifted l C base i (j + 1) := by
  refine ⟨h.len, by have := h.le; omega, ?_, ?_⟩
  · rw [List.take_succ_eq_append_getElem hj, List.filter_append, ← h.front]
    simp [hk]
  · have := congrArg (List.drop 1) h.back
    simpa [List.drop_drop, Nat.add_comm] using this
end Go.Proofs.Ytfhmdeamhmjddaa
