/-
  Locks in order, put in, pumped: plain laws; no program in sight.
-/
import Derived.Test.YtpniggmdokkkcaaGreatDoorMb8
import Derived.Test.YtpniggmdokkkcaaGreatDoorMb6
import Derived.Test.YtpniggmdokkkcaaGreatDoorMb7
import Derived.Laws.AppendOwnNone
set_option linter.unusedVariables false
set_option linter.unusedSimpArgs false
namespace Go.Proofs.YtpniggmdokkkcaaGreatDoor

theorem cmpL_eq : ∀ {a b : List (List UInt8)}, cmpL a b = 0 → a = b
  | [], [], _ => rfl
  | [], _ :: _, h => by simp [cmpL] at h
  | _ :: _, [], h => by simp [cmpL] at h
  | x :: a, y :: b, h => by
    unfold cmpL at h
    by_cases hs : cmpS x y = 0
    · rw [if_pos hs] at h
      rw [cmpS_zero hs, cmpL_eq h]
    · rw [if_neg hs] at h
      exact absurd h hs
theorem cmpL_same : ∀ a : List (List UInt8), cmpL a a = 0
  | [] => rfl
  | x :: a => by unfold cmpL; rw [cmpS_same, if_pos rfl, cmpL_same a]
theorem cmpI_anti (a b : Int) : cmpI a b = - cmpI b a := by unfold cmpI; (repeat' split) <;> omega
theorem ordI_anti (x y : LkS) : ordI x y = - ordI y x := by
  unfold ordI orI
  rw [cmpL_anti x.path y.path, cmpI_anti x.ses y.ses]
  by_cases h : cmpL y.path x.path = 0
  · rw [h, if_pos (by decide), if_pos rfl]
  · rw [if_neg (by omega), if_neg h]
theorem ordI_zero {x y : LkS} (h : ordI x y = 0) : x.path = y.path ∧ x.ses = y.ses := by
  unfold ordI orI at h
  by_cases hp : cmpL x.path y.path = 0
  · rw [if_pos hp] at h
    refine ⟨cmpL_eq hp, ?_⟩
    unfold cmpI at h
    split at h
    · omega
    · split at h <;> omega
  · rw [if_neg hp] at h
    exact absurd h hp
theorem ordI_key {x y : LkS} (h1 : x.path = y.path) (h2 : x.ses = y.ses) : ordI x y = 0 := by
  unfold ordI orI cmpI
  rw [h1, h2, cmpL_same]
  simp
theorem ordI_trans {a b c : LkS} (h1 : ordI a b ≤ 0) (h2 : ordI b c ≤ 0) : ordI a c ≤ 0 := by
  have k1 : cmpL a.path b.path ≤ 0 := by
    unfold ordI orI at h1
    by_cases h : cmpL a.path b.path = 0
    · omega
    · rw [if_neg h] at h1; exact h1
  have k2 : cmpL b.path c.path ≤ 0 := by
    unfold ordI orI at h2
    by_cases h : cmpL b.path c.path = 0
    · omega
    · rw [if_neg h] at h2; exact h2
  have k3 := cmpL_trans k1 k2
  by_cases h0 : cmpL a.path c.path = 0
  · have e := cmpL_eq h0
    rw [← e] at k2
    have k4 := cmpL_anti b.path a.path
    have e2 : cmpL a.path b.path = 0 := by omega
    have e3 := cmpL_eq e2
    unfold ordI orI at *
    rw [if_pos e2] at h1
    rw [← e, ← e3, cmpL_same, if_pos rfl] at h2
    rw [if_pos h0]
    unfold cmpI at *
    split at h1 <;> split at h2 <;> (repeat' split) <;> first | omega | skip
    all_goals (split at h1 <;> split at h2 <;> omega)
  · unfold ordI orI
    rw [if_neg h0]
    exact k3
theorem ordI_lt {a b c : LkS} (h1 : ordI a b ≤ 0) (h2 : ordI b c < 0) : ordI a c < 0 := by
  rcases Int.lt_or_le (ordI a c) 0 with h | h
  · exact h
  · have h3 := ordI_anti a c
    have := ordI_trans (a := c) (b := a) (c := b) (by omega) h1
    have h4 := ordI_anti c b
    omega
def SortedK (l : List LkS) : Prop := l.Pairwise fun a b => ordI a b ≤ 0
theorem mono_of {l : List LkS} (h : SortedK l) (x : LkS) : Mono l x := by
  intro i j hij hj hlt
  rcases Nat.lt_or_eq_of_le hij with h1 | rfl
  · exact ordI_lt (List.pairwise_iff_getElem.1 h i j (by omega) hj h1) hlt
  · exact hlt
theorem ahead_spec (x : LkS) : ∀ (l : List LkS), SortedK l → (∀ y ∈ l.take (ahead l x), ordI y x < 0) ∧ (∀ y ∈ l.drop (ahead l x), 0 ≤ ordI y x) := by
  intro l h
  induction l with
  | nil => exact ⟨by simp [ahead], by simp [ahead]⟩
  | cons a l ih =>
    have hh := List.pairwise_cons.1 h
    obtain ⟨h1, h2⟩ := ih hh.2
    by_cases ha : ordI a x < 0
    · have e : ahead (a :: l) x = ahead l x + 1 := by unfold ahead; rw [List.takeWhile_cons_of_pos (by simpa using ha)]; rfl
      rw [e]
      refine ⟨fun y hy => ?_, fun y hy => h2 y (by simpa using hy)⟩
      rw [List.take_succ_cons] at hy
      exact (List.mem_cons.1 hy).elim (fun e => e ▸ ha) (h1 y)
    · have e : ahead (a :: l) x = 0 := by unfold ahead; rw [List.takeWhile_cons_of_neg (by simpa using ha)]; rfl
      rw [e]
      refine ⟨by simp, fun y hy => ?_⟩
      rw [List.drop_zero] at hy
      rcases List.mem_cons.1 hy with rfl | hy
      · omega
      · rcases Int.lt_or_le (ordI y x) 0 with h3 | h3
        · exact absurd (ordI_lt (hh.1 y hy) h3) ha
        · exact h3
theorem insK_mem {l : List LkS} {x y : LkS} : y ∈ insK l x ↔ y = x ∨ y ∈ l := by
  unfold insK
  rw [List.mem_append, List.mem_cons]
  conv => rhs; rw [← List.take_append_drop (ahead l x) l, List.mem_append]
  constructor
  · rintro (h | h | h)
    · exact .inr (.inl h)
    · exact .inl h
    · exact .inr (.inr h)
  · rintro (h | h | h)
    · exact .inr (.inl h)
    · exact .inl h
    · exact .inr (.inr h)
theorem insK_perm (l : List LkS) (x : LkS) : (insK l x).Perm (l ++ [x]) := by
  unfold insK
  conv => rhs; rw [← List.take_append_drop (ahead l x) l, List.append_assoc]
  exact List.Perm.append_left _ (List.perm_append_singleton x _).symm
theorem insK_sorted {l : List LkS} (h : SortedK l) (x : LkS) : SortedK (insK l x) := by
  obtain ⟨h1, h2⟩ := ahead_spec x l h
  have h' : SortedK (l.take (ahead l x) ++ l.drop (ahead l x)) := by rw [List.take_append_drop]; exact h
  unfold SortedK at *
  rw [List.pairwise_append] at h'
  unfold insK
  rw [List.pairwise_append, List.pairwise_cons]
  refine ⟨h'.1, ⟨fun y hy => ?_, h'.2.1⟩, fun a ha b hb => ?_⟩
  · have := h2 y hy
    have := ordI_anti x y
    omega
  · rcases List.mem_cons.1 hb with rfl | hb
    · have := h1 a ha
      omega
    · exact h'.2.2 a ha b hb

/-- One step of a pump; 'ins' puts a lock in. -/
def pstep (ins : List LkS → LkS → List LkS) (st : BkS × List LkS × List LkS) (x : LkS) : BkS × List LkS × List LkS :=
  if st.1.last < 18446744073709551615 ∧ (!(st.1.held.any (conflB x)) && !(st.2.2.any (conflB x))) = true then
    ({ st.1 with held := ins st.1.held (tokd st.1 x), last := st.1.last + 1 }, st.2.1 ++ [tokd st.1 x], st.2.2)
  else (st.1, st.2.1, st.2.2 ++ [x])
def pst (ins : List LkS → LkS → List LkS) (d : BkS) (t : Nat) : BkS × List LkS × List LkS := (d.waits.take t).foldl (pstep ins) (d, [], [])
def pumpP (ins : List LkS → LkS → List LkS) (d : BkS) : BkS × List LkS := ({ (pst ins d d.waits.length).1 with waits := (pst ins d d.waits.length).2.2 }, (pst ins d d.waits.length).2.1)
theorem pst_succ (ins : List LkS → LkS → List LkS) (d : BkS) (t : Nat) (h : t < d.waits.length) : pst ins d (t + 1) = pstep ins (pst ins d t) d.waits[t] := by
  unfold pst
  rw [List.take_succ_eq_append_getElem h, List.foldl_append]
  rfl
/-- What a book keeps. -/
structure WfB (d : BkS) : Prop where
  six1 : ∀ y ∈ d.held, Six y.path
  six2 : ∀ y ∈ d.waits, Six y.path
  sorted : SortedK d.held
  few : d.held.length + d.waits.length ≤ 900
  low : 0 ≤ d.last
  high : d.last ≤ 18446744073709551615
structure PInv (d : BkS) (t : Nat) (st : BkS × List LkS × List LkS) : Prop where
  waits : st.1.waits = d.waits
  sorted : SortedK st.1.held
  six : ∀ y ∈ st.1.held, Six y.path
  six2 : ∀ y ∈ st.2.2, Six y.path
  len : st.1.held.length + st.2.2.length = d.held.length + t
  len2 : st.2.1.length + st.2.2.length = t
  low : 0 ≤ st.1.last
  high : st.1.last ≤ 18446744073709551615
theorem pst_inv {d : BkS} (h : WfB d) : ∀ t, t ≤ d.waits.length → PInv d t (pst insK d t)
  | 0, _ => ⟨rfl, h.sorted, h.six1, by simp [pst], rfl, rfl, h.low, h.high⟩
  | t + 1, ht => by
    have ih := pst_inv h t (by omega)
    rw [pst_succ insK d t (by omega)]
    have hx := h.six2 d.waits[t] (List.getElem_mem _)
    generalize d.waits[t] = x at *
    generalize pst insK d t = st at *
    obtain ⟨b, out, left⟩ := st
    unfold pstep
    split
    · rename_i hc
      refine ⟨ih.waits, insK_sorted ih.sorted _, fun y hy => ?_, ih.six2, ?_, ?_, by have := ih.low; simp only at this ⊢; omega, by have := hc.1; simp only at this ⊢; omega⟩
      · rcases insK_mem.1 hy with rfl | hy
        · exact hx
        · exact ih.six y hy
      · have := ih.len
        simp only [insK_length] at this ⊢
        omega
      · have := ih.len2
        simp only [List.length_append, List.length_singleton] at this ⊢
        omega
    · refine ⟨ih.waits, ih.sorted, ih.six, fun y hy => ?_, ?_, ?_, ih.low, ih.high⟩
      · rcases List.mem_append.1 hy with hy | hy
        · exact ih.six2 y hy
        · rw [List.mem_singleton.1 hy]; exact hx
      · have := ih.len
        simp only [List.length_append, List.length_singleton] at this ⊢
        omega
      · have := ih.len2
        simp only [List.length_append, List.length_singleton] at this ⊢
        omega
theorem pump_wf {d : BkS} (h : WfB d) : WfB (pumpP insK d).1 := by
  have hi := pst_inv h d.waits.length (Nat.le_refl _)
  refine ⟨hi.six, hi.six2, hi.sorted, ?_, hi.low, hi.high⟩
  have := hi.len
  have := h.few
  show (pst insK d d.waits.length).1.held.length + (pst insK d d.waits.length).2.2.length ≤ 900
  omega
end Go.Proofs.YtpniggmdokkkcaaGreatDoor

/-
  locks: a list of locks appended; slices.Grow, slices.Concat of locks; count, walked. Conditions: those that each theorem states.
-/
set_option linter.unusedVariables false
set_option linter.unusedSimpArgs false
set_option maxRecDepth 100000
namespace Go.Proofs.YtpniggmdokkkcaaGreatDoor
open Go.RowKit

/-- One list of locks appended to another. -/
theorem lkAppend {ops : Array Oper} {rest : List Oper} {o : Oper} {a : Act} {w : World} {Q : Exit → Act → World → Prop} (hgd : o.guard = none) (s x : Operand)
    (ho : o.op = .call { callee := .builtin .append, args := #[s, x], argTypes := #[37, 37] })
    (B C : Nat) (v u : Value) (l m : List LkS) (hs : a.eval s = v) (hown : LkRow B w v l) (hx : a.eval x = u) (hu : LkRow C w u m)
    (hl : l.length ≤ 100000) (hm : m.length ≤ 100000) (hB : B ≤ w.heap.size)
    (h : ∀ v' w', LkRow B w' v' (l ++ m) → Upd v.ownBlock.toList w w' → (v'.ownBlock = v.ownBlock ∨ v'.ownBlock = some w.heap.size) → wpList Tryz.prog ops Q rest (a.put o.dst v') w') : wpList Tryz.prog ops Q (o :: rest) a w := by
  obtain ⟨i0, hinf, hz0, hz1, hz2⟩ := info_parts Tryz.infoLk
  obtain ⟨au, cu, rfl, hnc, hcm, hau⟩ := own_open2 hu
  have happ : lkCells (l ++ m) = lkCells l ++ lkCells m := List.flatMap_append
  rcases hau with ⟨rfl, rfl⟩ | ⟨g, rfl⟩
  · have hm0 : m = [] := List.eq_nil_of_length_eq_zero (by omega)
    subst hm0
    refine wpList_append_own_none hgd s x 37 ho B 42 i0 4 Tryz.underlying37 hinf v l.length (lkCells l) hs hown (by rw [hx]; rfl) ?_
    have := h v w (by rw [List.append_nil]; exact hown) (Upd.refl _ _) (.inl rfl)
    exact this
  · have hcell : ∀ j z, (lkCells m)[j]? = some z → w.cell? ((⟨g, 0, none⟩ : Addr).add j) = some z := fun j z hj => by
      have hjl : j < m.length * 4 := by rw [← lkCells_length]; exact (List.getElem?_eq_some_iff.1 hj).1
      obtain ⟨k, e, hk, hc⟩ := lks_cell (row_lks hu) (by omega)
      simp only [Option.some.injEq, Addr.mk.injEq, and_true] at e
      subst e
      rw [Addr.add_lit, Nat.zero_add, ← hj, ← hc j hjl]
    refine wpList_append_own_at w hgd s x 37 ho B 42 i0 _ 4 40 Tryz.underlying37 hinf hz0 hz1 hz2 rfl (by decide) v l.length (lkCells l) hs hown ⟨g, 0, none⟩ m.length cu (lkCells m) hx (lkCells_length m) hcell (one_cells m) (by unfold maxLen; omega) (by omega) hB ?_
    intro v' w' hown' hgr _ hat
    refine h v' w' ?_ (Upd.of_grown hgr) hat
    unfold LkRow
    rw [List.length_append, happ]
    exact hown'
/-- A lock in a block of its own, as a list. -/
theorem one_row {w : World} {k : Nat} {x : LkS} (h : Blk w k x.cells.toArray 42) (B : Nat) (hB : B ≤ k) : LkRow B w (.slice (some ⟨k, 0, none⟩) 1 1) [x] :=
  ⟨rfl, .inr ⟨k, 1, x.cells.toArray, rfl, hB, h, Nat.le_refl _, by unfold maxLen; omega, rfl, by simp [lkCells]; rfl⟩⟩

set_option maxHeartbeats 2000000 in
theorem grow_any (n : Nat) (hn : n ≤ 100000) (w : World) : Calls Tryz.prog 59 #[.slice none 0 0, .int .i64 n] w fun e w' => ∃ v, e = .returned v ∧ Upd [] w w' ∧ LkRow w.heap.size w' v [] := by
  obtain ⟨i0, hinf, hz0, hzs, hzb⟩ := info_parts Tryz.infoLk
  rcases Nat.eq_zero_or_pos n with rfl | hpos
  · go_enter Tryz.func59, Tryz.ntmps59
    go_wp2_with fail
    go_ret
    exact ⟨_, rfl, Upd.refl _ _, World.ownsRow_nil _ _ _ _⟩
  · obtain ⟨z, hz⟩ : ∃ z, z = (Value.agg #[.int .i64 0, .string ⟨#[]⟩, .bool false, .int .u64 0]) := ⟨_, rfl⟩
    have hzc : z.cells.size = 4 := by rw [hz]; rfl
    rw [← hz] at hz0
    have hold : (Builtin.firstCells i0.size 0 (.slice none 0 0)).run Tryz.prog w.drew = .ok ([] : List Value).toArray w.drew := by
      simp [Builtin.firstCells]
    have hrz : ∀ ty, (Builtin.append_ #[37, 3] ty #[.slice none 0 0, .int .i64 n]).run Tryz.prog w =
        .ok (.slice (some ⟨w.heap.size, 0, none⟩) n (grownCap w n 0 42)) (w.drew.alloc (.cells (Builtin.zeroCells z.cells n ++ Builtin.zeroCells z.cells (grownCap w n 0 42 - n)) 42)) := fun ty => by
      have h := Lib.run_append_grow_zeros w 37 3 ty 42 i0 _ .i64 .i64 Tryz.underlying37 Tryz.underlying3 hinf hz0 none 0 0 [] hold n hpos (by omega) (by omega) (by omega) (by rw [hzb]; omega) (by rw [hzb]; exact growslice_fits (by omega) (by omega))
      simpa using h
    obtain ⟨G, hG⟩ : ∃ G, G = grownCap w n 0 42 := ⟨_, rfl⟩
    obtain ⟨ROW, hROW⟩ : ∃ ROW : Array Value, ROW = Builtin.zeroCells z.cells n ++ Builtin.zeroCells z.cells (G - n) := ⟨_, rfl⟩
    rw [← hG] at hrz
    rw [← hROW] at hrz
    have hGn : n ≤ G := by rw [hG]; exact grownCap_ge w _ _ _
    have hGm : G ≤ maxLen := by
      have := grownCap_le_maxLen w n 0 42 (by unfold maxLen; omega)
      rwa [← hG] at this
    have hRs : ROW.size = G * 4 := by
      rw [hROW]
      simp [Builtin.zeroCells, hzc]
      omega
    have HGM := hd hGm
    have HRS := hd hRs
    have hp' : (0 : Int) < (n : Int) := by omega
    clear hold hz hzc hz0 hG hROW hRs
    go_enter Tryz.func59, Tryz.ntmps59
    go_wp2_with (at_builtin; refine Lib.wpList_append_run _ rfl _ _ _ _ rfl _ _ rfl rfl _ _ (hrz _) ?_)
    go_ret
    refine ⟨_, rfl, ((Upd.refl [] w).drew).alloc _, ?_⟩
    exact ⟨rfl, .inr ⟨w.heap.size, G, ROW, rfl, Nat.le_refl _, Blk.new' (w.drew) _ _ rfl, Nat.zero_le _, HGM.out, HRS.out, rfl⟩⟩

set_option maxHeartbeats 4000000 in
theorem concat_any (q B1 B2 : Nat) (v1 v2 : Value) (l1 l2 : List LkS) (w : World) (hb : Blk w q #[v1, v2] 37) (h1 : LkRow B1 w v1 l1) (h2 : LkRow B2 w v2 l2) (hl1 : l1.length ≤ 1024) (hl2 : l2.length ≤ 1024) :
    Calls Tryz.prog 34 #[.slice (some ⟨q, 0, none⟩) 2 2] w fun e w' => ∃ v', e = .returned v' ∧ Upd [] w w' ∧ LkRow w.heap.size w' v' (l1 ++ l2) := by
  have H1 := hd h1
  have H2 := hd h2
  obtain ⟨a1, n1, rfl, -⟩ := own_open h1
  obtain ⟨a2, n2, rfl, -⟩ := own_open h2
  have hc := hb.cell
  have hlt := hb.lt
  have HB := hd hb
  have HGR := hd (fun W => grow_any (l1.length + l2.length) (by omega) W)
  clear h1 h2 hb
  go_enter Tryz.func34, Tryz.ntmps34
  go_wp2_with fail
  go_loopw [3, 11] (fun s3 s11 wr => ((s11 = .int .i64 0 ∧ s3 = .int .i64 0) ∨ (s11 = .int .i64 1 ∧ s3 = .int .i64 l1.length) ∨ (s11 = .int .i64 2 ∧ s3 = .int .i64 ((l1.length + l2.length : Nat) : Int))) ∧ w = wr) (fun _ s11 _ => 2 - (intOf s11).toNat)
  case atStart => exact ⟨.inl ⟨rfl, rfl⟩, rfl⟩
  case round =>
    obtain ⟨hc3, rfl⟩ := hrel
    have hadd : (l1.length : Int) + (l2.length : Int) ≤ 9223372036854775807 := by omega
    have hadd1 : (l1.length : Int) ≤ 9223372036854775807 := by omega
    have hn1 : ¬ (l1.length : Int) < 0 := by omega
    have hn2 : ¬ (l1.length : Int) + (l2.length : Int) < 0 := by omega
    rcases hc3 with ⟨rfl, rfl⟩ | ⟨rfl, rfl⟩ | ⟨rfl, rfl⟩
    · go_wp2_with fail
      go_roundw
      case rel => exact ⟨.inr (.inl ⟨rfl, by go_num⟩), by first | rfl | trivial⟩
      case measure => simp [intOf]
    · go_wp2_with fail
      go_roundw
      case rel => exact ⟨.inr (.inr ⟨rfl, by go_num⟩), by first | rfl | trivial⟩
      case measure => simp [intOf]
    · go_wp2_with fail
      refine (HGR.out _).mono ?_
      rintro e w1 ⟨v, rfl, hu1, hr1⟩
      have HU1 := hd hu1
      have HR1 := hd hr1
      obtain ⟨a0, c0, rfl, -⟩ := own_open hr1
      clear hu1 hr1 hc
      go_wp2_with fail
      go_loopw [6, 27] (fun s6 s27 wr => Upd [] w wr ∧ ((s27 = .int .i64 0 ∧ LkRow w.heap.size wr s6 []) ∨ (s27 = .int .i64 1 ∧ LkRow w.heap.size wr s6 l1) ∨ (s27 = .int .i64 2 ∧ LkRow w.heap.size wr s6 (l1 ++ l2)))) (fun _ s27 _ => 2 - (intOf s27).toNat)
      case atStart => exact ⟨HU1.out, .inl ⟨rfl, HR1.out⟩⟩
      case round =>
        clear HR1 HU1
        obtain ⟨hu, hcs⟩ := hrel
        have HU := hd hu
        have hc := (HB.out.upd hu (by simp)).cell
        have hlt' := (HB.out.upd hu (by simp)).lt
        have hsz := hu.size
        clear hu
        rcases hcs with ⟨rfl, hr⟩ | ⟨rfl, hr⟩ | ⟨rfl, hr⟩
        · have HR := hd hr
          obtain ⟨a6, c6, rfl, -⟩ := own_open hr
          have hob := hd (own_ge hr)
          clear hr
          go_wp2_with (at_builtin; refine lkAppend rfl _ _ rfl w.heap.size B1 _ _ [] l1 rfl HR.out rfl (own_upd (L := []) H1.out HU.out (by simp)) (by simp) (by omega) hsz ?_)
          intro v' w' hown' hu' hat
          have HO := hd hown'
          have HU2 := hd (HU.out.trans' hu' (fun i hi => .inr (hob.out i (by simpa using hi)).1))
          obtain ⟨a7, c7, rfl, -⟩ := own_open hown'
          clear hown' hu' hat
          go_wp2_with fail
          go_roundw
          case rel => exact ⟨HU2.out, .inr (.inl ⟨rfl, by simpa using HO.out⟩)⟩
          case measure => simp [intOf]
        · have HR := hd hr
          obtain ⟨a6, c6, rfl, -⟩ := own_open hr
          have hob := hd (own_ge hr)
          clear hr
          go_wp2_with (at_builtin; refine lkAppend rfl _ _ rfl w.heap.size B2 _ _ l1 l2 rfl HR.out rfl (own_upd (L := []) H2.out HU.out (by simp)) (by omega) (by omega) hsz ?_)
          intro v' w' hown' hu' hat
          have HO := hd hown'
          have HU2 := hd (HU.out.trans' hu' (fun i hi => .inr (hob.out i (by simpa using hi)).1))
          obtain ⟨a7, c7, rfl, -⟩ := own_open hown'
          clear hown' hu' hat
          go_wp2_with fail
          go_roundw
          case rel => exact ⟨HU2.out, .inr (.inr ⟨rfl, by simpa using HO.out⟩)⟩
          case measure => simp [intOf]
        · obtain ⟨a6, c6, rfl, -⟩ := own_open hr
          have HR := hd hr
          clear hr
          go_wp2_with fail
          go_ret
          exact ⟨_, rfl, HU.out, HR.out⟩

/-- So many locks of a session. -/
def countK (s : Int) (l : List LkS) : Nat := (l.filter fun x => decide (x.ses = s)).length
theorem countK_take (s : Int) (l : List LkS) (t : Nat) (ht : t < l.length) : countK s (l.take (t + 1)) = countK s (l.take t) + (if l[t].ses = s then 1 else 0) := by
  unfold countK
  rw [List.take_succ_eq_append_getElem ht, List.filter_append, List.length_append]
  by_cases h : l[t].ses = s <;> simp [h]
theorem countK_le (s : Int) (l : List LkS) : countK s l ≤ l.length := List.length_filter_le _ _

set_option maxHeartbeats 4000000 in
theorem count_any (s : Int) {B k : Nat} {vh vw : Value} {d : BkS} (w : World) (h : BookAt B w k vh vw d) (hl1 : d.held.length ≤ 1024) (hl2 : d.waits.length ≤ 1024) :
    Calls Tryz.prog 35 #[.pointer (some ⟨k, 0, none⟩), .int .i64 s] w fun e w' => e = .returned (.int .i64 (countK s (d.held ++ d.waits))) ∧ Upd [] w w' := by
  have hb := h.blk
  simp only [BkS.cells] at hb
  have HH := hd h.held
  have HW := hd h.waits
  obtain ⟨a1, n1, rfl, -⟩ := own_open h.held
  obtain ⟨a2, n2, rfl, -⟩ := own_open h.waits
  have hc := hb.cell
  have hlt := hb.lt
  have HKS := hd (show ∀ W', Upd [] w W' → (∀ o', W'.cell? ⟨k, o', none⟩ = #[.slice a1 d.held.length n1, .slice a2 d.waits.length n2, .int .u64 d.last][o']?) from fun W' h => (hb.upd h (by simp)).cell)
  have HCC := hd (fun W (hu : Upd [] w W) q (hq : Blk W q #[.slice a1 d.held.length n1, .slice a2 d.waits.length n2] 37) => concat_any q B B _ _ d.held d.waits W hq (own_upd (L := []) HH.out hu (by simp)) (own_upd (L := []) HW.out hu (by simp)) hl1 hl2)
  have hll : (d.held ++ d.waits).length ≤ 2048 := by rw [List.length_append]; omega
  generalize d.held ++ d.waits = l at *
  clear h hb
  go_enter Tryz.func35, Tryz.ntmps35
  go_upto_region 2 with fail
  go_region_held3 (fun W' => (∀ o', W'.cell? ⟨k, o', none⟩ = #[.slice a1 d.held.length n1, .slice a2 d.waits.length n2, .int .u64 d.last][o']?))
    ((refine HKS.out _ ?_; repeat (first | with_reducible exact Upd.refl _ _ | with_reducible exact hup1 | with_reducible refine Upd.drew ?_ | with_reducible refine Upd.alloc ?_ _)))
    (first
    | ((with_reducible refine (HCC.out _ (((Upd.refl [] w).alloc _).drew) _ (Blk.newd _ _ _ (by simp))).mono ?_); rintro e w1 ⟨v1, rfl, hu1, hv1⟩; have HV1 := hd hv1; obtain ⟨b1, m1, rfl, -⟩ := own_open hv1; have hup1 : Upd [] w w1 := (((Upd.refl [] w).alloc _).drew).trans hu1)
    | fail "no arm")
  all_goals
    have HU1 := hd hup1
    have HLK := hd (row_lks HV1.out)
    clear hc hup1 hu1
    generalize w1 = W1 at *
    go_wp2_with fail
    go_loopw [5, 19] (fun s5 s19 wr => ∃ t : Nat, s19 = .int .i64 t ∧ t ≤ l.length ∧ s5 = .int .i64 (countK s (l.take t)) ∧ Upd [] W1 wr) (fun _ s19 _ => l.length - (intOf s19).toNat)
    case atStart => exact ⟨0, rfl, by omega, rfl, Upd.refl _ _⟩
    case round =>
      obtain ⟨t, rfl, ht, rfl, hu⟩ := hrel
      have HU := hd hu
      clear hu
      by_cases htn : t < l.length
      · have htn' : (t : Int) < (l.length : Int) := by omega
        obtain ⟨g, rfl, hgl, c0, c1, c2, c3⟩ := lks_get HLK.out HU.out t htn
        have HCT := hd (countK_take s l t htn)
        have hcb := countK_le s (l.take t)
        rw [List.length_take] at hcb
        have hadd : (countK s (l.take t) : Int) + 1 ≤ 9223372036854775807 := by omega
        have e0 := one_lk wr #[.int .i64 l[t].ses, .string (txt (textL l[t].path)), .bool l[t].excl, .int .u64 l[t].tok] 42
        generalize l[t] = x at *
        clear hcb
        generalize countK s (l.take t) = cn at *
        go_upto_region 5 with fail
        obtain ⟨W3, kx, hkx, hW3, hu3, hb3⟩ := e0
        rw [hW3, hkx]
        have HU3 := hd (HU.out.trans hu3)
        have hc3 := hb3.cell
        clear hkx hW3 hu3 hb3 c0 c1 c2 c3
        by_cases hs : x.ses = s
        · have hs' : (x.ses == s) = true := by simpa using hs
          have HS := hd hs
          clear hs
          go_wp2_with fail
          go_roundw
          case rel => exact ⟨t + 1, by go_num, by omega, by rw [HCT.out, if_pos HS.out]; go_num, HU3.out⟩
          case measure => simp [intOf]; omega
        · have hs' : (x.ses == s) = false := by simpa using hs
          have HS := hd hs
          clear hs
          go_wp2_with fail
          go_roundw
          case rel => exact ⟨t + 1, by go_num, by omega, by rw [HCT.out, if_neg HS.out]; rfl, HU3.out⟩
          case measure => simp [intOf]; omega
      · have htn' : ¬ (t : Int) < (l.length : Int) := by omega
        rw [List.take_of_length_le (by omega)]
        go_wp2_with fail
        go_ret
        exact ⟨rfl, HU1.out.trans HU.out⟩
end Go.Proofs.YtpniggmdokkkcaaGreatDoor
