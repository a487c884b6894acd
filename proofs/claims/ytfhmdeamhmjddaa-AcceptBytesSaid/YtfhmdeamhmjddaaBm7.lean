/-
  The document's acceptor (chatelaineref16), its small functions, walked: Above, others, refuse. Conditions: numbers that there may be.
-/
import Derived.Test.YtfhmdeamhmjddaaBm6
set_option linter.unusedVariables false
set_option linter.unusedSimpArgs false
set_option maxRecDepth 100000
namespace Go.Proofs.Ytfhmdeamhmjddaa
open Go.RowKit

theorem refAbove_any (a b : BalS) (w : World) : Calls Try.prog 76 #[.agg #[.int .u64 a.c, .int .i64 a.n], .agg #[.int .u64 b.c, .int .i64 b.n]] w fun e w' => e = .returned (.bool (decide (b.cmp a < 0))) ∧ Upd [] w w' := by
  have key : decide (b.cmp a < 0) = (decide (b.c < a.c) || (decide (a.c = b.c) && decide (b.n < a.n))) := by
    unfold BalS.cmp orI cmpI
    by_cases h1 : b.c < a.c
    · simp [h1]
    · by_cases h2 : a.c < b.c
      · have h3 : ¬ a.c = b.c := by omega
        simp [h1, h2, h3]
      · have h3 : a.c = b.c := by omega
        by_cases h4 : b.n < a.n
        · simp [h3, h4]
        · by_cases h5 : a.n < b.n <;> simp [h3, h4, h5]
  have HK := hd key
  clear key
  have hu0 := Upd.refl [] w
  go_enter Try.func76, Try.ntmps76
  by_cases h1 : b.c < a.c
  · go_wp2
    all_goals
      go_ret
      exact ⟨ret_b (by rw [HK.out]; simp [h1]), (by repeat (first | with_reducible exact hu0 | with_reducible exact Upd.refl _ _ | with_reducible refine Upd.alloc ?_ _ | with_reducible refine Upd.drew ?_ | with_reducible refine Upd.setCell ?_ (by first | (simp; done) | (simp; omega)) _))⟩
  · by_cases h2 : a.c = b.c
    · by_cases h3 : b.n < a.n
      · go_wp2
        all_goals
          go_ret
          exact ⟨ret_b (by rw [HK.out]; simp [h1, h2, h3]), (by repeat (first | with_reducible exact hu0 | with_reducible exact Upd.refl _ _ | with_reducible refine Upd.alloc ?_ _ | with_reducible refine Upd.drew ?_ | with_reducible refine Upd.setCell ?_ (by first | (simp; done) | (simp; omega)) _))⟩
      · go_wp2
        all_goals
          go_ret
          exact ⟨ret_b (by rw [HK.out]; simp [h1, h2, h3]), (by repeat (first | with_reducible exact hu0 | with_reducible exact Upd.refl _ _ | with_reducible refine Upd.alloc ?_ _ | with_reducible refine Upd.drew ?_ | with_reducible refine Upd.setCell ?_ (by first | (simp; done) | (simp; omega)) _))⟩
    · have h2' : (a.c == b.c) = false := by simpa using h2
      go_wp2
      all_goals
        go_ret
        exact ⟨ret_b (by rw [HK.out]; simp [h1, h2]), (by repeat (first | with_reducible exact hu0 | with_reducible exact Upd.refl _ _ | with_reducible refine Upd.alloc ?_ _ | with_reducible refine Upd.drew ?_ | with_reducible refine Upd.setCell ?_ (by first | (simp; done) | (simp; omega)) _))⟩

theorem refOthers_any (d : AccS) (a : Option Addr) (ln cp : Nat) (n now : Int) (w : World) (hn0 : -4611686018427387904 < n) (hn1 : n < 4611686018427387904) :
    Calls Try.prog 74 #[.agg (d.cells (.slice a ln cp)), .int .i64 n, .int .i64 now] w fun e w' => e = .returned (.bool (d.others n now)) ∧ Upd [] w w' := by
  have HO := hd (show d.others n now = (decide (d.node ≠ 0) && decide (d.node ≠ n + 1) && decide (0 < d.til - now)) from rfl)
  unfold AccS.cells
  have hu0 := Upd.refl [] w
  go_enter Try.func74, Try.ntmps74
  by_cases h0 : d.node = 0
  · go_wp2
    go_ret
    exact ⟨ret_b (by rw [HO.out]; simp [h0]), (by repeat (first | with_reducible exact hu0 | with_reducible exact Upd.refl _ _ | with_reducible refine Upd.alloc ?_ _ | with_reducible refine Upd.drew ?_ | with_reducible refine Upd.setCell ?_ (by first | (simp; done) | (simp; omega)) _))⟩
  · by_cases h1 : d.node = n + 1
    · go_wp2
      go_ret
      exact ⟨ret_b (by rw [HO.out]; simp [h0, h1]), (by repeat (first | with_reducible exact hu0 | with_reducible exact Upd.refl _ _ | with_reducible refine Upd.alloc ?_ _ | with_reducible refine Upd.drew ?_ | with_reducible refine Upd.setCell ?_ (by first | (simp; done) | (simp; omega)) _))⟩
    · have e0 : (d.node != 0) = true := by simpa using h0
      have e1 : (d.node != n + 1) = true := by simpa using h1
      by_cases h2 : now < d.til
      · have HE := hd (show d.others n now = true by rw [HO.out]; simp [h0, h1]; omega)
        go_wp2
        go_ret
        exact ⟨ret_b (by rw [HE.out]), (by repeat (first | with_reducible exact hu0 | with_reducible exact Upd.refl _ _ | with_reducible refine Upd.alloc ?_ _ | with_reducible refine Upd.drew ?_ | with_reducible refine Upd.setCell ?_ (by first | (simp; done) | (simp; omega)) _))⟩
      · have HE := hd (show d.others n now = false by rw [HO.out]; simp [h0, h1]; omega)
        go_wp2
        go_ret
        exact ⟨ret_b (by rw [HE.out]), (by repeat (first | with_reducible exact hu0 | with_reducible exact Upd.refl _ _ | with_reducible refine Upd.alloc ?_ _ | with_reducible refine Upd.drew ?_ | with_reducible refine Upd.setCell ?_ (by first | (simp; done) | (simp; omega)) _))⟩

theorem refRefuse_any (d : AccS) (a : Option Addr) (ln cp : Nat) (left : Int) (w : World) :
    Calls Try.prog 75 #[.agg (d.cells (.slice a ln cp)), .int .i64 left] w fun e w' => e = .returned (MsgS.val { kind := 5, bal := d.bal, time := left } (.slice none 0 0)) ∧ Upd [] w w' := by
  unfold AccS.cells MsgS.val msgC
  have hu0 := Upd.refl [] w
  go_enter Try.func75, Try.ntmps75
  go_wp2
  refine bodyPost_ret (v := _) (by simp [results, Try.results75, go_sem]; rfl) rfl ?_
  exact ⟨rfl, (by repeat (first | with_reducible exact hu0 | with_reducible exact Upd.refl _ _ | with_reducible refine Upd.alloc ?_ _ | with_reducible refine Upd.drew ?_ | with_reducible refine Upd.setCell ?_ (by first | (simp; done) | (simp; omega)) _))⟩
end Go.Proofs.Ytfhmdeamhmjddaa

/-
  accept.Acceptor.Trim (by slices.DeleteFunc), walked. Conditions: those that each theorem states.
-/
set_option linter.unusedVariables false
set_option linter.unusedSimpArgs false
set_option maxRecDepth 100000
namespace Go.Proofs.Ytfhmdeamhmjddaa
open Go.RowKit Go.Lib

/-- What Trim keeps. -/
def keptBy (base : Int) (e : EntS) : Bool := decide (base < e.slot)
/-- The first place of an entry that goes. -/
def firstGone (l : List EntS) (base : Int) : Nat := (l.takeWhile (keptBy base)).length

/-- The same as slices.IndexFunc says it. -/
def goneAt (l : List EntS) (base : Int) : Int := if firstGone l base < l.length then (firstGone l base : Int) else -1

theorem takeWhile_len (p : EntS → Bool) (l : List EntS) (k : Nat) (hk : k ≤ l.length) (h1 : ∀ t (ht : t < l.length), t < k → p l[t] = true) (h2 : ∀ h : k < l.length, p l[k] = false) : (l.takeWhile p).length = k := by
  induction l generalizing k with
  | nil => simp at hk; subst hk; rfl
  | cons a t ih =>
    cases k with
    | zero =>
      have := h2 (by simp)
      simp at this
      rw [List.takeWhile_cons_of_neg (by simpa using this)]
      rfl
    | succ k =>
      have := h1 0 (by simp) (by omega)
      simp at this
      rw [List.takeWhile_cons_of_pos this]
      simp only [List.length_cons]
      rw [ih k (by simpa using hk) (fun t ht hk => by have := h1 (t + 1) (by simpa using ht) (by omega); rwa [List.getElem_cons_succ] at this) (fun h => by have := h2 (by simpa using h); rwa [List.getElem_cons_succ] at this)]

theorem gone_any (s c k base : Int) (t : ByteArray) (q : Nat) (w : World) (hq : w.cell? ⟨q, 0, none⟩ = some (.int .i64 base)) :
    Calls Try.prog 49 #[.agg #[.int .i64 s, .int .u64 c, .int .i64 k, .string t], .pointer (some ⟨q, 0, none⟩)] w fun r w' => r = .returned (.bool (decide (s ≤ base))) ∧ Upd [] w w' := by
  have hql : q < w.heap.size := World.block_lt_of_cell? w _ hq
  go_enter Try.func49, Try.ntmps49
  go_wp2
  go_ret
  exact ⟨rfl, (Upd.refl _ _).alloc _⟩

/-- The cells of the entry at place t of a row at g. -/
theorem row_cells {w : World} {g : Nat} {l : List EntS} (h : ∀ j, j < l.length * 4 → w.cell? ⟨g, j, none⟩ = (entCells l)[j]?) (t : Nat) (ht : t < l.length) :
    w.cell? ⟨g, t * 4, none⟩ = some (.int .i64 l[t].slot) ∧ w.cell? ⟨g, t * 4 + 1, none⟩ = some (.int .u64 l[t].bal.c) ∧ w.cell? ⟨g, t * 4 + 2, none⟩ = some (.int .i64 l[t].bal.n) ∧ w.cell? ⟨g, t * 4 + 3, none⟩ = some (.string l[t].text) := by
  refine ⟨?_, ?_, ?_, ?_⟩
  · rw [h _ (by omega)]; exact entCells_get l t ht 0 (by omega)
  · rw [h _ (by omega)]; exact entCells_get l t ht 1 (by omega)
  · rw [h _ (by omega)]; exact entCells_get l t ht 2 (by omega)
  · rw [h _ (by omega)]; exact entCells_get l t ht 3 (by omega)

set_option maxHeartbeats 1000000 in
theorem index_any (B : Nat) (v : Value) (l : List EntS) (base : Int) (q : Nat) (w : World) (h : w.ownsRow B 85 4 v l.length (entCells l)) (hl : l.length ≤ 1024) (hq : w.cell? ⟨q, 0, none⟩ = some (.int .i64 base)) :
    Calls Try.prog 73 #[v, .func (.func 49) #[] #[.pointer (some ⟨q, 0, none⟩)]] w fun r w' =>
      r = .returned (.int .i64 (goneAt l base)) ∧ Upd [] w w' := by
  have HGA := hd (show goneAt l base = if firstGone l base < l.length then (firstGone l base : Int) else -1 from rfl)
  obtain ⟨a, cap, rfl, hcap, hcm, hrow⟩ := own_open h
  have hql : q < w.heap.size := World.block_lt_of_cell? w _ hq
  have hcell : ∀ wr, Upd [] w wr → ∀ t (ht : t < l.length), ∃ g, a = some ⟨g, 0, none⟩ ∧ wr.cell? ⟨g, t * 4, none⟩ = some (.int .i64 l[t].slot) ∧ wr.cell? ⟨g, t * 4 + 1, none⟩ = some (.int .u64 l[t].bal.c) ∧
      wr.cell? ⟨g, t * 4 + 2, none⟩ = some (.int .i64 l[t].bal.n) ∧ wr.cell? ⟨g, t * 4 + 3, none⟩ = some (.string l[t].text) := by
    intro wr hu t ht
    obtain ⟨g, rfl, hg, hgl, hc, hf⟩ := hrow (by omega)
    exact ⟨g, rfl, row_cells (fun j hj => by rw [← hc j hj]; exact World.cell?_of_block (hu.block g hgl (by simp))) t ht⟩
  have HC := hd hcell
  have HQ := hd (fun wr (hu : Upd [] w wr) => (World.cell?_of_block (a := ⟨q, 0, none⟩) (hu.block q hql (by simp))).trans hq)
  clear hcell hrow h hcm hq
  go_enter Try.func73, Try.ntmps73
  go_wp2_with fail
  go_loopw [8] (fun c wr => ∃ t : Nat, c = .int .i64 t ∧ t ≤ l.length ∧ Upd [] w wr ∧ Hd (∀ u (hu : u < l.length), u < t → keptBy base l[u] = true)) (fun c _ => l.length - (intOf c).toNat)
  case atStart => exact ⟨0, rfl, Nat.zero_le _, Upd.refl _ _, hd fun u hu h => by omega⟩
  case round =>
    obtain ⟨t, rfl, ht, hu, hI⟩ := hrel
    have HU := hd hu
    by_cases htl : t < l.length
    · obtain ⟨g, rfl, c0, c1, c2, c3⟩ := HC.out wr hu t htl
      have hqc := HQ.out wr hu
      have htl' : (t : Int) < (l.length : Int) := by omega
      clear hu
      have HK := hd (show keptBy base l[t] = decide (base < l[t].slot) from rfl)
      have HT := hd htl
      have HFG := hd (show keptBy base l[t] = false → firstGone l base = t from fun h => takeWhile_len _ l t ht hI.out (fun _ => h))
      have HNX := hd (show keptBy base l[t] = true → ∀ u (hu : u < l.length), u < t + 1 → keptBy base l[u] = true from fun h u hu hlt => by
        rcases Nat.lt_or_ge u t with h1 | h1
        · exact hI.out u hu h1
        · obtain rfl : u = t := by omega
          exact h)
      generalize l[t]'_ = e at *
      obtain ⟨s, ⟨c, k⟩, tx⟩ := e
      simp only at c0 c1 c2 c3 HK
      by_cases hsb : s ≤ base
      · have hsb' : decide (s ≤ base) = true := decide_eq_true hsb
        go_wp2_with ((with_reducible refine (gone_any _ _ _ _ _ _ _ hqc).mono ?_); rintro e w' ⟨rfl, hu⟩; have HU1 := hd hu; clear hu)
        go_ret
        rw [HGA.out, HFG.out (by rw [HK.out]; simp; omega), if_pos htl]
        exact ⟨rfl, HU.out.trans HU1.out⟩
      · have hsb' : decide (s ≤ base) = false := decide_eq_false hsb
        go_wp2_with ((with_reducible refine (gone_any _ _ _ _ _ _ _ hqc).mono ?_); rintro e w' ⟨rfl, hu⟩; have HU1 := hd hu; clear hu)
        go_roundw
        case rel => exact ⟨t + 1, by go_num, by omega, HU.out.trans HU1.out, hd (HNX.out (by rw [HK.out]; simp; omega))⟩
        case measure => simp [intOf]; omega
    · obtain rfl : t = l.length := by omega
      have HFG := hd (show firstGone l base = l.length from takeWhile_len _ l _ (Nat.le_refl _) hI.out (fun h => by omega))
      clear hu
      go_wp2_with fail
      go_ret
      rw [HGA.out, HFG.out, if_neg (by omega)]
      exact ⟨rfl, HU.out⟩

theorem run_clear_many {P : Program} (w : World) (t e ty : TypeId) (z : Value) (ht : P.underlying t = some (.slice e)) (hv : ∀ w, (zeroValue e).run P w = .ok z w) (b o n c : Nat) (hn : 0 < n)
    (hc : ∀ j, j < n * z.cells.size → (w.cell? ⟨b, o + j, none⟩).isSome = true) (hf : ∀ j, j < n * z.cells.size → w.frozen? ⟨b, o + j, none⟩ = false) (h1 : ∀ v ∈ (Builtin.zeroCells z.cells n).toList, v.oneCell' = true) :
    (Builtin.clear_ #[t] ty #[.slice (some ⟨b, o, none⟩) n c]).run P w = .ok (.tuple #[]) (w.setCells b o (Builtin.zeroCells z.cells n).toList) := by
  have hl : (Builtin.zeroCells z.cells n).toList.length = n * z.cells.size := by simp [Builtin.zeroCells]
  have hst := run_storeCells_cells (P := P) b o (Builtin.zeroCells z.cells n).toList 0 w (by rw [hl]; simpa using hc) (by rw [hl]; simpa using hf) h1
  simp only [Nat.add_zero] at hst
  obtain ⟨m, rfl⟩ : ∃ m, n = m + 1 := ⟨n - 1, by omega⟩
  simp [Builtin.clear_, run_underlying ht, hv, hst]
theorem wpList_clear_run {P : Program} (w : World) {ops : Array Oper} {rest : List Oper} {o : Oper} {a : Act} {Q : Exit → Act → World → Prop} (hgd : o.guard = none) (s : Operand) (t : TypeId)
    (ho : o.op = .call { callee := .builtin .clear, args := #[s], argTypes := #[t] }) (v : Value) (hs : a.eval s = v) {v' : Value} {w' : World}
    (hr : (Builtin.clear_ #[t] o.type #[v]).run P w = .ok v' w') (h : wpList P ops Q rest (a.put o.dst v') w') : wpList P ops Q (o :: rest) a w :=
  wpList_plain hgd fun K hK => by
    unfold Oper.wp execOp
    simp only [ho, resolve, invoke, builtin, Sem.run_bind, Sem.run_pure, Result.andThen_ok, List.map_toArray, List.map_cons, List.map_nil, hs, hr]
    exact hK _ _ h

/-- Of a list of entries, the first i have been settled: they are what is kept of the first j of l; those from j on stand as in l. -/
structure Sifted (l C : List EntS) (base : Int) (i j : Nat) : Prop where
  len : C.length = l.length
  le : i ≤ j
  front : C.take i = (l.take j).filter (keptBy base)
  back : C.drop j = l.drop j

theorem sifted_step (l C : List EntS) (base : Int) (i j : Nat) (h : Sifted l C base i j) (hij : i < j) (hj : j < l.length) (hk : keptBy base l[j] = true) : Sifted l (C.set i l[j]) base (i + 1) (j + 1) := by
  have hlen := h.len
  refine ⟨by simpa using h.len, by omega, ?_, ?_⟩
  · rw [List.take_succ_eq_append_getElem (by omega) (l := l), List.filter_append, ← h.front]
    rw [List.take_succ_eq_append_getElem (by simp; omega)]
    rw [List.take_set_of_le (by omega)]
    simp [hk]
  · rw [List.drop_set_of_lt (by omega)]
    have := congrArg (List.drop 1) h.back
    simpa [List.drop_drop, Nat.add_comm] using this
theorem sifted_skip (l C : List EntS) (base : Int) (i j : Nat) (h : Sifted l C base i j) (hj : j < l.length) (hk : keptBy base l[j] = false) : Sifted l C base i (j + 1) := by
  refine ⟨h.len, by have := h.le; omega, ?_, ?_⟩
  · rw [List.take_succ_eq_append_getElem hj, List.filter_append, ← h.front]
    simp [hk]
  · have := congrArg (List.drop 1) h.back
    simpa [List.drop_drop, Nat.add_comm] using this
end Go.Proofs.Ytfhmdeamhmjddaa

/-
  slices.DeleteFunc of entries, and accept.Acceptor.Trim, walked. Conditions: those that each theorem states.
-/
set_option linter.unusedVariables false
set_option linter.unusedSimpArgs false
set_option maxRecDepth 100000
namespace Go.Proofs.Ytfhmdeamhmjddaa
open Go.RowKit Go.Lib

theorem gone_spec (l : List EntS) (base : Int) : (∀ t (ht : t < l.length), t < firstGone l base → keptBy base l[t] = true) ∧ (∀ h : firstGone l base < l.length, keptBy base l[firstGone l base] = false) := by
  unfold firstGone
  induction l with
  | nil => exact ⟨fun t ht => by simp at ht, fun h => by simp at h⟩
  | cons a t ih =>
    by_cases ha : keptBy base a = true
    · have e : List.takeWhile (keptBy base) (a :: t) = a :: List.takeWhile (keptBy base) t := List.takeWhile_cons_of_pos ha
      rw [e]
      refine ⟨fun q hq h => ?_, fun h => ?_⟩
      · cases q with
        | zero => exact ha
        | succ q => exact ih.1 q (by simpa using hq) (by simpa using h)
      · simp only [List.length_cons] at h ⊢
        exact ih.2 (by omega)
    · have e : List.takeWhile (keptBy base) (a :: t) = [] := List.takeWhile_cons_of_neg ha
      rw [e]
      exact ⟨fun q hq h => by simp at h, fun h => by simpa using ha⟩
theorem firstGone_le (l : List EntS) (base : Int) : firstGone l base ≤ l.length := (List.takeWhile_prefix _).length_le
theorem all_kept (l : List EntS) (base : Int) (h : ¬ firstGone l base < l.length) : l.filter (keptBy base) = l := by
  have hle := firstGone_le l base
  rw [List.filter_eq_self]
  intro e he
  obtain ⟨t, ht, rfl⟩ := List.getElem_of_mem he
  exact (gone_spec l base).1 t ht (by omega)
theorem sifted_start (l : List EntS) (base : Int) (h : firstGone l base < l.length) : Sifted l l base (firstGone l base) (firstGone l base + 1) := by
  obtain ⟨h1, h2⟩ := gone_spec l base
  have hk := h2 h
  generalize firstGone l base = k at *
  refine ⟨rfl, by omega, ?_, rfl⟩
  rw [List.take_succ_eq_append_getElem h, List.filter_append]
  have : (l.take k).filter (keptBy base) = l.take k := by
    rw [List.filter_eq_self]
    intro e he
    obtain ⟨t, ht, rfl⟩ := List.getElem_of_mem he
    rw [List.getElem_take]
    simp only [List.length_take] at ht
    exact h1 t (by omega) (by omega)
  rw [this]
  simp [hk]

theorem own_cut {w : World} {B T g n cap i : Nat} {C : List EntS} {vs : List Value} (h : w.ownsRow B T 4 (.slice (some ⟨g, 0, none⟩) n cap) n (entCells C)) (hC : C.length = n) (hi : i ≤ n) :
    (w.setCells g (i * 4) vs).ownsRow B T 4 (.slice (some ⟨g, 0, none⟩) i cap) i (entCells (C.take i)) := by
  rcases h.2 with ⟨he, _⟩ | ⟨g', cap', cur, he, hb, hg, hnc, hcm, hcs, ht⟩
  · cases he
  · simp only [Value.slice.injEq, Option.some.injEq, Addr.mk.injEq, and_true, true_and] at he
    obtain ⟨rfl, rfl⟩ := he
    obtain ⟨c', hb', hs'⟩ := setCells_blk (T := T) vs (i * 4) w cur hg
    refine own_of_cells hb' hb (by omega) hcm (by omega) (by rw [entCells_length, List.length_take]; omega) (fun j hj => ?_)
    rw [World.cell?_setCells_out _ _ _ _ _ (fun _ _ => .inl (by simpa using hj)), Blk.cell hg j, entCells_take _ _ (by omega), List.getElem?_take, if_pos hj, ← ht, List.getElem?_take, if_pos (by omega)]
    simp

set_option maxHeartbeats 4000000 in
theorem delete_any (B : Nat) (v : Value) (l : List EntS) (base : Int) (q : Nat) (w : World) (h : w.ownsRow B 85 4 v l.length (entCells l)) (hl : l.length ≤ 1024) (hq : w.cell? ⟨q, 0, none⟩ = some (.int .i64 base)) (hqv : ∀ g, v.ownBlock = some g → q ≠ g) :
    Calls Try.prog 48 #[v, .func (.func 49) #[] #[.pointer (some ⟨q, 0, none⟩)]] w fun r w' =>
      ∃ v', r = .returned v' ∧ w'.ownsRow B 85 4 v' (l.filter (keptBy base)).length (entCells (l.filter (keptBy base))) ∧ Upd v.ownBlock.toList w w' ∧ v'.ownBlock = v.ownBlock := by
  have hix := index_any B v l base q w h hl hq
  have hql : q < w.heap.size := World.block_lt_of_cell? w _ hq
  by_cases hgo : firstGone l base < l.length
  case neg =>
    have hf := all_kept l base hgo
    rw [show goneAt l base = -1 from if_neg hgo] at hix
    rw [hf]
    have HIX := hd hix
    have H := hd h
    clear hix h hf
    go_enter Try.func48, Try.ntmps48
    go_wp2_with ((with_reducible refine HIX.out.mono ?_); rintro e w' ⟨rfl, hu⟩; have HU := hd hu; clear hu)
    go_ret
    exact ⟨v, rfl, own_upd H.out HU.out (by simp), HU.out.mono (by simp), rfl⟩
  case pos =>
    have hst := sifted_start l base hgo
    rw [show goneAt l base = (firstGone l base : Int) from if_pos hgo] at hix
    have hll := h.1
    generalize firstGone l base = k at *
    obtain ⟨g, cap, rfl, hgB, hgl, hcap, -, -⟩ := own_cases h (by omega)
    have hqg : q ≠ g := hqv g rfl
    have hk1 : ((k : Int) == -1) = false := by rw [beq_eq_false_iff_ne]; omega
    have hcm : cap ≤ maxLen := by
      rcases h.2 with ⟨he, _⟩ | ⟨g', cap', cur, he, _, _, _, hm, _⟩
      · cases he
      · simp only [Value.slice.injEq] at he
        obtain ⟨_, _, rfl⟩ := he
        exact hm
    have hcm63 : cap ≤ 9223372036854775807 := by unfold maxLen at hcm; omega
    obtain ⟨i0, hinf, hz0, hz1, hz2⟩ := info_parts Try.infoEnt
    obtain ⟨z, hz⟩ : ∃ z, z = (Value.agg #[.int .i64 0, .int .u64 0, .int .i64 0, .string ⟨#[]⟩]) := ⟨_, rfl⟩
    have hzc : z.cells.size = 4 := by rw [hz]; rfl
    have hzv : ∀ w, (zeroValue 85).run Try.prog w = .ok z w := by
      intro w
      rw [← hz] at hz0
      simp [zeroValue, typeInfo, hinf, hz0]
    have HCL := hd (fun (W : World) (n : Nat) (hn : 0 < n) (o c : Nat) ty (hc : ∀ j, j < n * 4 → (W.cell? ⟨g, o + j, none⟩).isSome = true) (hf : ∀ j, W.frozen? ⟨g, j, none⟩ = false) =>
      run_clear_many (P := Try.prog) W 39 85 ty z Try.underlying39 hzv g o n c hn (by rw [hzc]; exact hc) (fun j hj => hf _) (by
        intro u hu
        rw [hz] at hu
        simp only [Builtin.zeroCells, Value.cells, Array.toList_map, List.mem_map] at hu
        obtain ⟨t, ht, rfl⟩ := hu
        have h4 : t % 4 < 4 := Nat.mod_lt _ (by decide)
        rcases (by omega : t % 4 = 0 ∨ t % 4 = 1 ∨ t % 4 = 2 ∨ t % 4 = 3) with e | e | e | e <;> (simp [e]; rfl)))
    have HQ := hd (fun wr (hu : Upd [g] w wr) => (World.cell?_of_block (a := ⟨q, 0, none⟩) (hu.block q hql (by simpa using hqg))).trans hq)
    have HIX := hd hix
    have H := hd h
    have HST := hd hst
    clear hix h hst hz hzc hzv hz0 hq hqv
    go_enter Try.func48, Try.ntmps48
    go_wp2_with ((with_reducible refine HIX.out.mono ?_); rintro e w1 ⟨rfl, hu⟩; have HU := hd hu; clear hu)
    go_loopw [5, 6] (fun s5 s6 wr => ∃ (i j : Nat) (C : List EntS), s5 = .int .i64 i ∧ s6 = .int .i64 j ∧ j ≤ l.length ∧ i < j ∧ Hd (Sifted l C base i j) ∧ wr.ownsRow B 85 4 (.slice (some ⟨g, 0, none⟩) l.length cap) l.length (entCells C) ∧ Upd [g] w wr) (fun _ s6 _ => l.length - (intOf s6).toNat)
    case atStart => exact ⟨k, k + 1, l, rfl, by go_num, by omega, by omega, hd HST.out, own_upd H.out HU.out (by simp), HU.out.mono (by simp)⟩
    case round =>
      obtain ⟨i, j, C, rfl, rfl, hj, hij, hS, hown, hu⟩ := hrel
      have HU1 := hd hu
      have HO := hd hown
      have hCl := hS.out.len
      obtain ⟨g', cap2, hge, -, hgl2, -, hgc, hgz⟩ := own_cases hown (by omega)
      simp only [Value.slice.injEq, Option.some.injEq, Addr.mk.injEq, and_true] at hge
      obtain ⟨rfl, -, rfl⟩ := hge
      by_cases hjl : j < l.length
      · have hCj : C[j]'(by omega) = l[j] := by
          have := congrArg (fun L : List EntS => L[0]?) hS.out.back
          simp only [List.getElem?_drop, Nat.add_zero] at this
          rw [List.getElem?_eq_getElem (by omega), List.getElem?_eq_getElem hjl] at this
          exact Option.some.inj this
        have hgcC : ∀ t, t < C.length * 4 → wr.cell? ⟨g, t, none⟩ = (entCells C)[t]? := fun t ht => hgc t (by omega)
        obtain ⟨c0, c1, c2, c3⟩ := row_cells hgcC j (by omega)
        rw [hCj] at c0 c1 c2 c3
        have HGC := hd hgcC
        have HK := hd (show keptBy base l[j] = decide (base < l[j].slot) from rfl)
        have HSTEP := hd (fun hk => sifted_step l C base i j hS.out hij hjl hk)
        have HSKIP := hd (fun hk => sifted_skip l C base i j hS.out hjl hk)
        have hjl' : (j : Int) < (l.length : Int) := by omega
        have hil' : (i : Int) < (l.length : Int) := by omega
        have hiC : i < C.length := by omega
        clear hCj hgc hgcC hu hown
        generalize l[j]'_ = e at *
        obtain ⟨s, ⟨c, kk⟩, tx⟩ := e
        simp only at c0 c1 c2 c3 HK
        by_cases hsb : s ≤ base
        · have hsb' : decide (s ≤ base) = true := decide_eq_true hsb
          go_wp2_with ((with_reducible refine (gone_any _ _ _ _ _ q _ (HQ.out _ (HU1.out.alloc _))).mono ?_); rintro e w2 ⟨rfl, hu2⟩; have hkv := Blk.upd (Blk.new wr _ _) hu2 (by simp); have hkc := hkv.cell; have HU2 := hd (((Upd.refl [] wr).alloc _).trans hu2); clear hu2 hkv)
          go_roundw
          case rel => exact ⟨i, j + 1, C, rfl, by go_num, by omega, by omega, hd (HSKIP.out (by rw [HK.out]; simp; omega)), own_upd HO.out HU2.out (by simp), HU1.out.trans (HU2.out.mono (by simp))⟩
          case measure => simp [intOf]; omega
        · have hsb' : decide (s ≤ base) = false := decide_eq_false hsb
          have hrow : ∀ W, Upd [] wr W → (∃ u0 u1 u2 u3, W.cell? ⟨g, i * 4, none⟩ = some u0 ∧ W.cell? ⟨g, i * 4 + 1, none⟩ = some u1 ∧ W.cell? ⟨g, i * 4 + 2, none⟩ = some u2 ∧ W.cell? ⟨g, i * 4 + 3, none⟩ = some u3) ∧ ∀ t, W.frozen? ⟨g, t, none⟩ = false := fun W hW => by
            obtain ⟨r0, r1, r2, r3⟩ := row_cells HGC.out i hiC
            have hb := hW.block g hgl2 (by simp)
            exact ⟨⟨_, _, _, _, (World.cell?_of_block hb).trans r0, (World.cell?_of_block hb).trans r1, (World.cell?_of_block hb).trans r2, (World.cell?_of_block hb).trans r3⟩, fun t => (World.frozen?_of_block (a := ⟨g, t, none⟩) hb).trans (hgz t)⟩
          have HROW := hd hrow
          clear hrow
          go_wp2_with ((with_reducible refine (gone_any _ _ _ _ _ q _ (HQ.out _ (HU1.out.alloc _))).mono ?_); rintro e w2 ⟨rfl, hu2⟩; have hkv := Blk.upd (Blk.new wr _ _) hu2 (by simp); have hkc := hkv.cell; have HU2 := hd (((Upd.refl [] wr).alloc _).trans hu2); obtain ⟨⟨u0, u1, u2, u3, r0, r1, r2, r3⟩, r4⟩ := HROW.out w2 HU2.out; clear hu2 hkv)
          go_roundw
          case rel =>
            refine ⟨i + 1, j + 1, C.set i ⟨s, ⟨c, kk⟩, tx⟩, by go_num, by go_num, by omega, by omega, hd (HSTEP.out (by rw [HK.out]; simp; omega)), ?_, ?_⟩
            · have h0 := own_upd HO.out HU2.out (by simp)
              have h1 := own_set (own_set (own_set (own_set h0 (i * 4) (by omega) (.int .i64 s)) (i * 4 + 1) (by omega) (.int .u64 c)) (i * 4 + 2) (by omega) (.int .i64 kk)) (i * 4 + 3) (by omega) (.string tx)
              rw [entCells_set]
              exact h1
            · exact ((((HU1.out.trans (HU2.out.mono (by simp))).setCell (p := ⟨g, i * 4, none⟩) (by simp) _).setCell (p := ⟨g, i * 4 + 1, none⟩) (by simp) _).setCell (p := ⟨g, i * 4 + 2, none⟩) (by simp) _).setCell (p := ⟨g, i * 4 + 3, none⟩) (by simp) _
          case measure => simp [intOf]; omega
      · obtain rfl : j = l.length := by omega
        have hfr := hS.out.front
        rw [List.take_length] at hfr
        have hin : (i : Int) ≤ (l.length : Int) := by omega
        have hci : ¬ (cap = i) := by omega
        have hfl : (l.filter (keptBy base)).length = i := by rw [← hfr, List.length_take]; omega
        have HCW := hd (fun ty => HCL.out wr (l.length - i) (by omega) (i * 4) (cap - i) ty (fun t ht => by
          rw [hgc _ (by omega), List.getElem?_eq_getElem (by rw [entCells_length]; omega)]; rfl) hgz)
        have hcut := fun vs => own_cut (B := B) (vs := vs) HO.out hCl (show i ≤ l.length by omega)
        have HCUT := hd hcut
        rw [hfr, ← hfl] at HCUT
        have HFL := hd hfl
        clear hcut hgc hu hown hfr hfl HCL
        generalize (Builtin.zeroCells z.cells (l.length - i)).toList = vs at HCW
        have hcl := HCW.out 0
        go_wp2_with fail
        go_ret
        refine ⟨_, rfl, ?_, ?_, rfl⟩
        · have := HCUT.out vs
          rw [HFL.out] at this ⊢
          exact this
        · exact (HU1.out.trans (setCells_upd _ _ _)).mono (by simp [Value.ownBlock])

/-- What Trim does. -/
def AccS.trim (d : AccS) (base : Int) : AccS := if d.base < base then { d with base := base, list := d.list.filter (keptBy base) } else d

set_option maxHeartbeats 4000000 in
theorem trim_any (B b : Nat) (l : Value) (d : AccS) (base : Int) (w : World) (h : AccAt B w b l d) (hl : d.list.length ≤ 1024) (hB : B ≤ w.heap.size) :
    Calls Try.prog 21 #[.pointer (some ⟨b, 0, none⟩), .int .i64 base] w fun e w' =>
      ∃ l', e = .returned (.bool (decide (d.base < base))) ∧ AccAt B w' b l' (d.trim base) ∧ WrUp b l l' w w' := by
  have hc := h.blk.cell
  have hz := h.blk.frozen
  have hlt := h.blk.lt
  have hol := h.ownlt
  have hne := h.ne
  have H := hd h
  simp only [AccS.cells] at hc
  clear h
  go_enter Try.func21, Try.ntmps21
  go_wp2_with fail
  go_region
  by_cases hb : d.base < base
  · have hb' : decide (base ≤ d.base) = false := decide_eq_false (by omega)
    have ht : d.trim base = { d with base := base, list := d.list.filter (keptBy base) } := by unfold AccS.trim; rw [if_pos hb]
    have HT := hd ht
    have hbw : ¬ (w.heap.size = b) := by omega
    have hbw2 : ¬ (b = w.heap.size) := by omega
    have HDL := hd (fun W (hu : Upd [b] w W) (hq : W.cell? ⟨w.heap.size, 0, none⟩ = some (.int .i64 base)) =>
      delete_any B l d.list base w.heap.size W (own_upd H.out.own hu (fun g hg => by simpa using hne g hg)) hl hq (fun g hg => by have := hol g hg; omega))
    have hu0 := Upd.refl [b] w
    have hbn : b ∉ l.ownBlock.toList := fun hm => hne b (by simpa using hm) rfl
    have HBN := hd hbn
    have HOL := hd hol
    have HNE := hd hne
    clear ht hbn hol hne
    go_wp2_with fail
    have hW : Upd [b] w (((w.setCell ⟨b, 3, none⟩ (.int .i64 base)).alloc (.cells #[.int .i64 base] 3)).drew) := (((Upd.refl _ _).setCell (p := ⟨b, 3, none⟩) (by simp) _).alloc _).drew
    have hq : World.cell? (((w.setCell ⟨b, 3, none⟩ (.int .i64 base)).alloc (.cells #[.int .i64 base] 3)).drew) ⟨w.heap.size, 0, none⟩ = some (.int .i64 base) := Blk.cell (Blk.newd (w.setCell ⟨b, 3, none⟩ (.int .i64 base)) #[.int .i64 base] 3 (k := w.heap.size) (by simp)) 0
    have hbk : Blk (((w.setCell ⟨b, 3, none⟩ (.int .i64 base)).alloc (.cells #[.int .i64 base] 3)).drew) b (({ d with base := base } : AccS).cells l) 76 := (Blk.alloc (H.out.blk.set 3 (.int .i64 base)) _).drew
    generalize (((w.setCell ⟨b, 3, none⟩ (.int .i64 base)).alloc (.cells #[.int .i64 base] 3)).drew) = W at *
    refine (HDL.out W hW hq).mono ?_
    rintro e w4 ⟨v', rfl, ho', hu', hb4⟩
    obtain ⟨xa, xc, rfl, -⟩ := own_open ho'
    have kb := hbk.upd hu' HBN.out
    have kc := kb.cell
    have kz := kb.frozen
    have KU := hd (Upd.trans' (L := b :: l.ownBlock.toList) (hW.mono (by simp)) hu' (fun i hi => .inl (List.mem_cons_of_mem _ hi)))
    simp only [AccS.cells] at kc
    have KB := hd kb
    have KO := hd ho'
    have KG := hd hb4
    clear kb ho' hu' hb4 HDL hq hbk hW hc hz
    go_wp2_with fail
    go_ret
    refine ⟨.slice xa _ xc, ret_b (by simp; omega), ?_, ⟨?_, fun g hg => .inl (by rw [KG.out] at hg; exact hg)⟩⟩
    · rw [HT.out]
      refine ⟨KB.out.set 4 _, ?_⟩
      exact own_upd (L := [b]) KO.out ((Upd.refl _ _).setCell (by simp) _) (fun g hg => by rw [KG.out] at hg; simpa using HNE.out g hg)
    · exact KU.out.setCell (by simp) _
  · have hb' : decide (base ≤ d.base) = true := decide_eq_true (by omega)
    have ht : d.trim base = d := by unfold AccS.trim; rw [if_neg hb]
    have HT := hd ht
    have hu0 := Upd.refl [] w
    clear ht
    go_wp2_with fail
    go_ret
    refine ⟨ret_b (by simp; omega), l, ?_, ⟨?_, fun g hg => .inl hg⟩⟩
    · rw [HT.out]
      exact H.out.later (by repeat (first | with_reducible exact hu0 | with_reducible exact Upd.refl _ _ | with_reducible refine Upd.alloc ?_ _ | with_reducible refine Upd.drew ?_ | with_reducible refine Upd.setCell ?_ (by first | (simp; done) | (simp; omega)) _))
    · exact Upd.mono (L := []) (by repeat (first | with_reducible exact hu0 | with_reducible exact Upd.refl _ _ | with_reducible refine Upd.alloc ?_ _ | with_reducible refine Upd.drew ?_ | with_reducible refine Upd.setCell ?_ (by first | (simp; done) | (simp; omega)) _)) (by simp)
end Go.Proofs.Ytfhmdeamhmjddaa
