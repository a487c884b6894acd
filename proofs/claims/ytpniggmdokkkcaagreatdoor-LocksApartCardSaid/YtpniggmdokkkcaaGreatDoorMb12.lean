/-
  locks: slices.DeleteFunc at locks, drop, walked. Conditions: those that each theorem states.
-/
import Derived.Test.YtpniggmdokkkcaaGreatDoorMb7
import Derived.Deep.RegionLaw
import Derived.Test.YtpniggmdokkkcaaGreatDoorMb10
set_option linter.unusedVariables false
set_option linter.unusedSimpArgs false
set_option maxRecDepth 100000
namespace Go.Proofs.YtpniggmdokkkcaaGreatDoor
open Go.RowKit

theorem lkCells_set (r : List LkS) (i : Nat) (hi : i < r.length) (x : LkS) :
    lkCells (r.set i x) = ((((lkCells r).set (i * 4) (.int .i64 x.ses)).set (i * 4 + 1) (.string (txt (textL x.path)))).set (i * 4 + 2) (.bool x.excl)).set (i * 4 + 3) (.int .u64 x.tok) := by
  have hl := lkCells_length r
  apply List.ext_getElem?
  intro j
  by_cases hj : j < r.length * 4
  · have e : j = j / 4 * 4 + j % 4 := by omega
    have hq : j / 4 < r.length := by omega
    obtain ⟨q, hq'⟩ : ∃ q, q = j / 4 := ⟨_, rfl⟩
    obtain ⟨t, ht'⟩ : ∃ t, t = j % 4 := ⟨_, rfl⟩
    rw [← hq'] at hq e
    rw [← ht'] at e
    have ht : t < 4 := by omega
    clear hq' ht'
    subst e
    rw [lkCells_get (r.set i x) q (by simpa using hq) t ht]
    simp only [List.getElem?_set, List.getElem_set, List.length_set, hl]
    by_cases hqi : i = q
    · subst hqi
      rw [if_pos rfl]
      have : t = 0 ∨ t = 1 ∨ t = 2 ∨ t = 3 := by omega
      rcases this with rfl | rfl | rfl | rfl <;> simp [LkS.cells] <;> omega
    · rw [if_neg hqi, if_neg (by omega), if_neg (by omega), if_neg (by omega), if_neg (by omega)]
      exact (lkCells_get r q hq t ht).symm
  · rw [List.getElem?_eq_none (by rw [lkCells_length, List.length_set]; omega), List.getElem?_eq_none (by simp only [List.length_set, hl]; omega)]
theorem row_set {B : Nat} {W : World} {g cap n : Nat} {r : List LkS} (h : W.ownsRow B 42 4 (.slice (some ⟨g, 0, none⟩) n cap) n (lkCells r)) (hn : r.length = n) (i : Nat) (hi : i < n) (x : LkS) :
    ((((W.setCell ⟨g, i * 4, none⟩ (.int .i64 x.ses)).setCell ⟨g, i * 4 + 1, none⟩ (.string (txt (textL x.path)))).setCell ⟨g, i * 4 + 2, none⟩ (.bool x.excl)).setCell ⟨g, i * 4 + 3, none⟩ (.int .u64 x.tok)).ownsRow B 42 4 (.slice (some ⟨g, 0, none⟩) n cap) n (lkCells (r.set i x)) := by
  rw [lkCells_set r i (by omega) x]
  exact own_set (own_set (own_set (own_set h (i * 4) (by omega) _) (i * 4 + 1) (by omega) _) (i * 4 + 2) (by omega) _) (i * 4 + 3) (by omega) _
theorem upG {L : List Nat} {w W : World} {g : Nat} (h : Upd L w W) (hk : g ∈ L ∨ w.heap.size ≤ g) (o p q r : Nat) (a b c d : Value) : Upd L w ((((W.setCell ⟨g, o, none⟩ a).setCell ⟨g, p, none⟩ b).setCell ⟨g, q, none⟩ c).setCell ⟨g, r, none⟩ d) :=
  (((h.setCell (p := ⟨g, o, none⟩) hk a).setCell (p := ⟨g, p, none⟩) hk b).setCell (p := ⟨g, q, none⟩) hk c).setCell (p := ⟨g, r, none⟩) hk d

/-- The zero value's cells, so many times. -/
def zerosK (n : Nat) : List Value := (Builtin.zeroCells #[.int .i64 0, .string ⟨#[]⟩, .bool false, .int .u64 0] n).toList
theorem zerosK_length (n : Nat) : (zerosK n).length = n * 4 := by simp [zerosK, Builtin.zeroCells]
theorem run_clear_lk (w : World) (ty : TypeId) (b o n c : Nat)
    (hc : ∀ j, j < n * 4 → (w.cell? ⟨b, o + j, none⟩).isSome = true) (hf : ∀ j, j < n * 4 → w.frozen? ⟨b, o + j, none⟩ = false) :
    (Builtin.clear_ #[37] ty #[.slice (some ⟨b, o, none⟩) n c]).run Tryz.prog w = .ok (.tuple #[]) (w.setCells b o (zerosK n)) := by
  obtain ⟨i0, hinf, hz0, hz1, hz2⟩ := info_parts Tryz.infoLk
  cases n with
  | zero =>
    have : zerosK 0 = [] := List.eq_nil_of_length_eq_zero (by rw [zerosK_length])
    rw [this]
    simp [Builtin.clear_, World.setCells]
  | succ m =>
    have hv : ∀ w, (zeroValue 42).run Tryz.prog w = .ok (.agg #[.int .i64 0, .string ⟨#[]⟩, .bool false, .int .u64 0]) w := fun w => by
      simp [zeroValue, typeInfo, hinf, hz0]
    have hst := run_storeCells_cells (P := Tryz.prog) b o (zerosK (m + 1)) 0 w (by rw [zerosK_length]; simpa using hc) (by rw [zerosK_length]; simpa using hf) (by
      intro v hv'
      simp only [zerosK, Builtin.zeroCells, Array.toList_map, List.mem_map] at hv'
      obtain ⟨i, _, rfl⟩ := hv'
      show (#[Value.int .i64 0, .string ⟨#[]⟩, .bool false, .int .u64 0][i % 4]!).oneCell' = true
      have hi : i % 4 = 0 ∨ i % 4 = 1 ∨ i % 4 = 2 ∨ i % 4 = 3 := by omega
      rcases hi with h | h | h | h <;> rw [h] <;> rfl)
    simp only [Nat.add_zero] at hst
    simp [Builtin.clear_, run_underlying Tryz.underlying37, hv, Value.cells]
    have e : (Builtin.zeroCells #[.int .i64 0, .string ⟨#[]⟩, .bool false, .int .u64 0] (m + 1)).toList = zerosK (m + 1) := rfl
    rw [e, hst]
    rfl

theorem Says.nil {L : List Nat} {F : Nat} {fs cs : Array Value} {p : LkS → Bool} {l : List LkS} {w : World} (h : Says L F fs cs p l w) : Says [] F fs cs p l w :=
  ⟨h.1, fun x hx W hW => h.2 x hx W (hW.mono (by simp))⟩
theorem wpList_clear_run {P : Program} (w : World) {ops : Array Oper} {rest : List Oper} {o : Oper} {a : Act} {Q : Exit → Act → World → Prop} (hgd : o.guard = none) (s : Operand) (t : TypeId)
    (ho : o.op = .call { callee := .builtin .clear, args := #[s], argTypes := #[t] }) (v : Value) (hs : a.eval s = v) {v' : Value} {w' : World}
    (hr : (Builtin.clear_ #[t] o.type #[v]).run P w = .ok v' w') (h : wpList P ops Q rest (a.put o.dst v') w') : wpList P ops Q (o :: rest) a w :=
  wpList_plain hgd fun K hK => by
    unfold Oper.wp execOp
    simp only [ho, resolve, invoke, builtin, Sem.run_bind, Sem.run_pure, Result.andThen_ok, List.map_toArray, List.map_cons, List.map_nil, hs, hr]
    exact hK _ _ h
theorem keep_take {l : List LkS} {p : LkS → Bool} {j : Nat} (hj : j < l.length) : (l.take (j + 1)).filter (fun x => !p x) = (l.take j).filter (fun x => !p x) ++ (if p l[j] then [] else [l[j]]) := by
  rw [List.take_succ_eq_append_getElem hj, List.filter_append]
  congr 1
  cases h : p l[j] <;> simp [h]

set_option maxHeartbeats 8000000 in
theorem delete_any (F : Nat) (fs cs : Array Value) (p : LkS → Bool) (B : Nat) (l : List LkS) (v : Value) (w : World) (h : LkRow B w v l) (H : Says v.ownBlock.toList F fs cs p l w) (hl : l.length ≤ 1024) :
    Calls Tryz.prog 67 #[v, .func (.func F) fs cs] w fun e w' => ∃ v', e = .returned v' ∧ LkRow B w' v' (l.filter fun x => !p x) ∧ Upd v.ownBlock.toList w w' ∧ v'.ownBlock = v.ownBlock := by
  have HI := hd (idx_any F fs cs p l v w (row_lks h) H.nil)
  have eg := H.1
  have HP := hd H.2
  have HC := hd (idxP_cases p l)
  obtain ⟨ix, hix⟩ : ∃ ix, idxP p l = ix := ⟨_, rfl⟩
  rw [hix] at HI HC
  have HR := hd (show w.ownsRow B 42 4 v l.length (lkCells l) from h)
  obtain ⟨a, cap, rfl, hnc, hcm, hga⟩ := own_open2 h
  clear hix H h
  have hcm2 : cap ≤ 9223372036854775807 := by unfold maxLen at hcm; omega
  obtain ⟨n, hn⟩ : ∃ n, l.length = n := ⟨_, rfl⟩
  rw [hn] at hl hnc HI HR ⊢
  have HN := hd hn
  clear hn hcm
  go_enter Tryz.func67, Tryz.ntmps67
  go_wp2_with fail
  refine HI.out.mono ?_
  rintro e w1 ⟨rfl, hu1⟩
  have HU1 := hd hu1
  have HR1 := hd (own_upd (L := []) HR.out hu1 (by simp))
  clear hu1 HI HR
  rcases HC.out with ⟨rfl, hall⟩ | ⟨t0, ht0, rfl, hp0, hall⟩
  · have HF := hd (show l.filter (fun x => !p x) = l from List.filter_eq_self.2 (fun x hx => by rw [hall x hx]; rfl))
    clear hall HC
    go_wp2_with fail
    go_ret
    refine ⟨.slice a n cap, rfl, ?_, HU1.out.mono (by simp), rfl⟩
    unfold LkRow
    rw [HF.out, HN.out]
    exact HR1.out
  · have HF0 := hd (show (l.take (t0 + 1)).filter (fun x => !p x) = l.take t0 by
      rw [keep_take ht0, hp0]
      simp only [if_true, List.append_nil]
      exact List.filter_eq_self.2 (fun x hx => by rw [hall x hx]; rfl))
    have ht0n : t0 < n := by have := HN.out; omega
    have h1 : ((t0 : Int) == -1) = false := by rw [beq_eq_false_iff_ne]; omega
    have h2 : ¬ ((t0 : Int) = -1) := by omega
    have hadd : (t0 : Int) + 1 ≤ 9223372036854775807 := by omega
    obtain ⟨g, rfl⟩ : ∃ g, a = some ⟨g, 0, none⟩ := by
      rcases hga with ⟨rfl, rfl⟩ | h
      · omega
      · exact h
    clear hall HC hga hp0
    go_wp2_with fail
    go_loopw [5, 6] (fun s5 s6 wr => ∃ (i j : Nat) (r : List LkS), s5 = .int .i64 i ∧ s6 = .int .i64 j ∧ i < j ∧ j ≤ n ∧ r.length = n ∧ r.take i = (l.take j).filter (fun x => !p x) ∧ r.drop j = l.drop j ∧ Upd [g] w wr ∧ wr.ownsRow B 42 4 (.slice (some ⟨g, 0, none⟩) n cap) n (lkCells r)) (fun _ s6 _ => n - (intOf s6).toNat)
    case atStart => exact ⟨t0, t0 + 1, l, rfl, by go_num, by omega, by omega, HN.out, HF0.out.symm, rfl, HU1.out.mono (by simp), HR1.out⟩
    case round =>
      obtain ⟨i, j, r, rfl, rfl, hij, hjn, hrn, hrt, hrd, hu, hrow⟩ := hrel
      have HU := hd hu
      have HROW := hd hrow
      have HRT := hd hrt
      have HRD := hd hrd
      have HRN := hd hrn
      have HLK := hd (show LksAt wr (.slice (some ⟨g, 0, none⟩) n cap) r by
        have : LkRow B wr (.slice (some ⟨g, 0, none⟩) n cap) r := by unfold LkRow; rw [hrn]; exact hrow
        exact row_lks this)
      clear hu hrow hrt hrd hrn
      by_cases hlt : j < n
      · have hlt' : (j : Int) < (n : Int) := by omega
        have hadj : (j : Int) + 1 ≤ 9223372036854775807 := by omega
        have hjl : j < l.length := by have := HN.out; omega
        have hjr : j < r.length := by have := HRN.out; omega
        have hrj : r[j] = l[j] := by
          have h := congrArg (fun q => q[0]?) HRD.out
          simp only [List.getElem?_drop, Nat.add_zero, List.getElem?_eq_getElem hjr, List.getElem?_eq_getElem hjl, Option.some.injEq] at h
          exact h
        obtain ⟨g', e', hgl, c0, c1, c2, c3⟩ := lks_get HLK.out (Upd.refl _ _) j hjr
        simp only [Option.some.injEq, Addr.mk.injEq, and_true] at e'
        subst e'
        rw [hrj] at c0 c1 c2 c3
        have HKT := hd (keep_take (p := p) hjl)
        have HPX := hd (HP.out l[j] (List.getElem_mem _))
        have e0 := one_lk wr #[.int .i64 l[j].ses, .string (txt (textL l[j].path)), .bool l[j].excl, .int .u64 l[j].tok] 42
        have hseti := row_set (i := i) HROW.out HRN.out (by omega) l[j]
        have HDR := hd (show l.drop (j + 1) = (l.drop j).drop 1 by rw [List.drop_drop])
        unfold LkS.val at HPX
        generalize l[j] = x at *
        clear hrj
        go_upto_region 8 with fail
        obtain ⟨W3, kx, hkx, hW3, hu3, hb3⟩ := e0
        rw [hW3, hkx]
        have hc3 := hb3.cell
        have HB3 := hd hb3
        have HU3 := hd (HU.out.trans (hu3.mono (M := [g]) (by simp)))
        have HR3 := hd (own_upd (L := []) HROW.out hu3 (by simp))
        clear hW3 hkx hu3 hb3 c0 c1 c2 c3 hseti
        rcases hpx : p x with _ | _
        · rw [hpx] at HPX HKT
          clear hpx
          go_wp2_with fail
          refine (HPX.out _ (by exact HU3.out)).mono ?_
          rintro e w4 ⟨rfl, hu4⟩
          have hb4 := (HB3.out.upd hu4 (by simp)).cell
          have HU4 := hd (HU3.out.trans (hu4.mono (M := [g]) (by simp)))
          have HR4 := hd (own_upd (L := []) HR3.out hu4 (by simp))
          have hadi : (i : Int) + 1 ≤ 9223372036854775807 := by omega
          have hin : i < n := by omega
          have hin' : (i : Int) < (n : Int) := by omega
          obtain ⟨gg, cc, e5, -, hgl4, -, hcell, hfz⟩ := own_cases HR4.out (by omega)
          simp only [Value.slice.injEq, Option.some.injEq, Addr.mk.injEq, and_true, true_and] at e5
          obtain ⟨rfl, rfl⟩ := e5
          have hlr : (lkCells r).length = n * 4 := by rw [lkCells_length, HRN.out]
          have f0 : w4.cell? ⟨g, i * 4, none⟩ = some ((lkCells r)[i * 4]'(by omega)) := by rw [hcell _ (by omega), List.getElem?_eq_getElem]
          have f1 : w4.cell? ⟨g, i * 4 + 1, none⟩ = some ((lkCells r)[i * 4 + 1]'(by omega)) := by rw [hcell _ (by omega), List.getElem?_eq_getElem]
          have f2 : w4.cell? ⟨g, i * 4 + 2, none⟩ = some ((lkCells r)[i * 4 + 2]'(by omega)) := by rw [hcell _ (by omega), List.getElem?_eq_getElem]
          have f3 : w4.cell? ⟨g, i * 4 + 3, none⟩ = some ((lkCells r)[i * 4 + 3]'(by omega)) := by rw [hcell _ (by omega), List.getElem?_eq_getElem]
          generalize (lkCells r)[i * 4]'_ = o0 at f0
          generalize (lkCells r)[i * 4 + 1]'_ = o1 at f1
          generalize (lkCells r)[i * 4 + 2]'_ = o2 at f2
          generalize (lkCells r)[i * 4 + 3]'_ = o3 at f3
          clear hu4 hcell hlr
          go_wp2_with fail
          go_roundw
          case rel =>
            refine ⟨i + 1, j + 1, r.set i x, by go_num, by go_num, by omega, by omega, by rw [List.length_set]; exact HRN.out, ?_, ?_, upG HU4.out (.inl (by simp)) _ _ _ _ _ _ _ _, row_set HR4.out HRN.out i (by omega) x⟩
            · rw [HKT.out, ← HRT.out, List.take_succ_eq_append_getElem (by rw [List.length_set]; have := HRN.out; omega)]
              rw [List.getElem_set_self, List.take_set_of_le (Nat.le_refl _)]
              rfl
            · rw [List.drop_set_of_lt (by omega), HDR.out, ← HRD.out, List.drop_drop]
          case measure => simp [intOf]; omega
        · rw [hpx] at HPX HKT
          clear hpx
          go_wp2_with fail
          refine (HPX.out _ (by exact HU3.out)).mono ?_
          rintro e w4 ⟨rfl, hu4⟩
          have HU4 := hd (HU3.out.trans (hu4.mono (M := [g]) (by simp)))
          have HR4 := hd (own_upd (L := []) HR3.out hu4 (by simp))
          clear hu4
          go_wp2_with fail
          go_roundw
          case rel =>
            refine ⟨i, j + 1, r, rfl, by go_num, by omega, by omega, HRN.out, ?_, ?_, HU4.out, HR4.out⟩
            · rw [HKT.out, ← HRT.out]
              simp
            · rw [HDR.out, ← HRD.out, List.drop_drop]
          case measure => simp [intOf]; omega
      · obtain rfl : j = n := by omega
        have hlt' : ¬ (j : Int) < (j : Int) := by omega
        have HFL := hd (show r.take i = l.filter (fun x => !p x) by rw [HRT.out, List.take_of_length_le (by have := HN.out; omega)])
        obtain ⟨gg, cc, e5, hgB, hgl4, hncc, hcell, hfz⟩ := own_cases HROW.out (by omega)
        simp only [Value.slice.injEq, Option.some.injEq, Addr.mk.injEq, and_true, true_and] at e5
        obtain ⟨rfl, rfl⟩ := e5
        have hlr : (lkCells r).length = j * 4 := by rw [lkCells_length, HRN.out]
        have hcl : ∀ ty c, (Builtin.clear_ #[37] ty #[.slice (some ⟨g, i * 4, none⟩) (j - i) c]).run Tryz.prog wr = .ok (.tuple #[]) (wr.setCells g (i * 4) (zerosK (j - i))) := fun ty c =>
          run_clear_lk wr ty g (i * 4) (j - i) c (fun q hq => by rw [hcell _ (by omega), List.getElem?_eq_getElem (by omega)]; rfl) (fun q hq => hfz _)
        have hFIN : Hd ((wr.setCells g (i * 4) (zerosK (j - i))).ownsRow B 42 4 (.slice (some ⟨g, 0, none⟩) i cap) i (lkCells (r.take i))) := by
          have hR := HROW.out
          obtain ⟨hll, hR⟩ := hR
          rcases hR with ⟨e6, _⟩ | ⟨g2, cap2, cur, e6, hb6, hg6, hnc6, hcm6, hcs6, ht6⟩
          · cases e6
          · simp only [Value.slice.injEq, Option.some.injEq, Addr.mk.injEq, and_true, true_and] at e6
            obtain ⟨rfl, rfl⟩ := e6
            obtain ⟨c', hbc, hsz⟩ := setCells_blk (T := 42) (zerosK (j - i)) (i * 4) wr cur hg6
            refine hd (own_of_cells hbc hb6 (by omega) hcm6 (by rw [hsz, hcs6]) (by rw [lkCells_length, List.length_take, HRN.out]; omega) (fun q hq => ?_))
            rw [World.cell?_setCells_out _ _ _ _ _ (fun _ _ => .inl (by simpa using hq)), hcell q (by omega)]
            have e7 : lkCells r = lkCells (r.take i) ++ lkCells (r.drop i) := by
              have : lkCells (r.take i ++ r.drop i) = lkCells (r.take i) ++ lkCells (r.drop i) := List.flatMap_append
              rw [← this, List.take_append_drop]
            rw [e7, List.getElem?_append_left (by rw [lkCells_length, List.length_take, HRN.out]; omega)]
        have HUF := hd (HU.out.trans ((setCells_upd (b := g) (zerosK (j - i)) (i * 4) wr)))
        have hi0 : (0 : Int) ≤ (i : Int) := by omega
        have hij' : (i : Int) ≤ (j : Int) := by omega
        have hic : i ≤ cap := by omega
        have hic' : (i : Int) ≤ (cap : Int) := by omega
        have hci : ¬ (cap = i) := by omega
        have hij2 : i ≤ j := by omega
        clear hcell hlr
        go_wp2_with (at_builtin; refine wpList_clear_run _ rfl _ 37 rfl _ rfl (hcl _ _) ?_)
        go_ret
        refine ⟨.slice (some ⟨g, 0, none⟩) i cap, rfl, ?_, HUF.out, rfl⟩
        unfold LkRow
        rw [← HFL.out, show (r.take i).length = i by rw [List.length_take, HRN.out]; omega]
        exact hFIN.out
end Go.Proofs.YtpniggmdokkkcaaGreatDoor

/-
  locks: drop; slices.Concat of locks, count, walked. Conditions: those that each theorem states.
-/
set_option linter.unusedVariables false
set_option linter.unusedSimpArgs false
set_option maxRecDepth 100000
namespace Go.Proofs.YtpniggmdokkkcaaGreatDoor
open Go.RowKit

theorem Says.mono {L M : List Nat} {F : Nat} {fs cs : Array Value} {p : LkS → Bool} {l m : List LkS} {w : World} (h : Says L F fs cs p l w) (hL : ∀ i ∈ M, i ∈ L) (hm : ∀ x ∈ m, x ∈ l) : Says M F fs cs p m w :=
  ⟨h.1, fun x hx W hW => h.2 x (hm x hx) W (hW.mono (fun i hi => .inl (hL i hi)))⟩
def dropB (p : LkS → Bool) (d : BkS) : BkS := { d with held := d.held.filter (fun x => !p x), waits := d.waits.filter (fun x => !p x) }

set_option maxHeartbeats 4000000 in
theorem drop_any (F : Nat) (fs cs : Array Value) (p : LkS → Bool) {B k : Nat} {vh vw : Value} {d : BkS} (w : World) (h : BookAt B w k vh vw d) (H : Says (foot k vh vw) F fs cs p (d.held ++ d.waits) w) (hl1 : d.held.length ≤ 1024) (hl2 : d.waits.length ≤ 1024) :
    Calls Tryz.prog 39 #[.pointer (some ⟨k, 0, none⟩), .func (.func F) fs cs] w fun e w' =>
      ∃ vh' vw', e = .returned (.int .i64 ((d.held.length : Int) + d.waits.length - (dropB p d).held.length - (dropB p d).waits.length)) ∧ BookAt B w' k vh' vw' (dropB p d) ∧ Upd (foot k vh vw) w w' ∧ vh'.ownBlock = vh.ownBlock ∧ vw'.ownBlock = vw.ownBlock := by
  have hne := h.ne
  have hb := h.blk
  simp only [BkS.cells] at hb
  have HA := hd h.apart
  have HH := hd h.held
  have HW := hd h.waits
  have HLT := hd h.lt
  obtain ⟨a1, n1, rfl, hn1, hm1, -⟩ := own_open h.held
  obtain ⟨a2, n2, rfl, hn2, hm2, -⟩ := own_open h.waits
  have HS := hd H
  have HNE := hd hne
  have hc := hb.cell
  have hlt := hb.lt
  have HB := hd hb
  have hk1 : ∀ (y : Later [] w) o', y.world.cell? ⟨k, o', none⟩ = #[.slice a1 d.held.length n1, .slice a2 d.waits.length n2, .int .u64 d.last][o']? := fun y => (hb.upd y.upd (by simp)).cell
  have HF1 := hd (List.length_filter_le (fun x => !p x) d.held)
  have HF2 := hd (List.length_filter_le (fun x => !p x) d.waits)
  have HQ := hd (show dropB p d = ⟨d.held.filter (fun x => !p x), d.waits.filter (fun x => !p x), d.last⟩ from rfl)
  generalize dropB p d = D at *
  have hadd : (d.held.length : Int) + (d.waits.length : Int) ≤ 9223372036854775807 := by omega
  have HM := hd (fun (i : Nat) => @mem_foot k (.slice a1 d.held.length n1) (.slice a2 d.waits.length n2) i)
  clear h H hne hb
  go_enter Tryz.func39, Tryz.ntmps39
  go_upto_region 1 with fail
  refine wp_region_later [] (by kernel_rfl) (by kernel_rfl) ?_
  repeat (go_big_quiet_step (fail))
  refine wpQuiet_nil ?_
  intro W1 hu1
  have hb1 := HB.out.upd hu1 (by simp)
  have hc1 := hb1.cell
  have hlt1 := hb1.lt
  have HU1 := hd hu1
  have HD1 := hd (delete_any F fs cs p B d.held _ W1 (own_upd (L := []) HH.out hu1 (by simp)) ((HS.out.later (hu1.mono (M := foot k (.slice a1 d.held.length n1) (.slice a2 d.waits.length n2)) (by simp)) (fun x hx => hx)).mono (fun i hi => (HM.out i).2 (.inr (.inl (by simpa using hi)))) (fun x hx => List.mem_append_left _ hx)) hl1)
  have HB1 := hd hb1
  clear hu1 hb1 hk1 hc
  go_wp2_with fail
  refine HD1.out.mono ?_
  rintro e w2 ⟨v1, rfl, ho1, hu2, hob1⟩
  have hkn : k ∉ (Value.slice a1 d.held.length n1).ownBlock.toList := fun hm => HNE.out.1 (by simpa using hm)
  have hb2 := HB1.out.upd hu2 hkn
  have hc2 := hb2.cell
  have hz2 := hb2.frozen
  have hlt2 := hb2.lt
  obtain ⟨b1, m1, rfl, -⟩ := own_open ho1
  have e3 : ∃ W3, w2.setCell ⟨k, 0, none⟩ (.slice b1 (d.held.filter fun x => !p x).length m1) = W3 ∧ Upd (foot k (.slice a1 d.held.length n1) (.slice a2 d.waits.length n2)) w W3 ∧ Blk W3 k #[.slice b1 (d.held.filter fun x => !p x).length m1, .slice a2 d.waits.length n2, .int .u64 d.last] 62 ∧ LkRow B W3 (.slice b1 (d.held.filter fun x => !p x).length m1) (d.held.filter fun x => !p x) ∧ LkRow B W3 (.slice a2 d.waits.length n2) d.waits := by
    refine ⟨_, rfl, ?_, hb2.set 0 _, ?_, ?_⟩
    · refine ((HU1.out.mono (by simp)).trans (hu2.mono (fun i hi => .inl ((HM.out i).2 (.inr (.inl (by simpa using hi))))))).setCell (.inl ((HM.out k).2 (.inl rfl))) _
    · exact own_upd (L := [k]) ho1 ((Upd.refl _ _).setCell (p := ⟨k, 0, none⟩) (by simp) _) (fun g hg hm => by
        simp only [List.mem_cons, List.not_mem_nil, or_false] at hm
        subst hm
        rw [hob1] at hg
        exact HNE.out.1 hg)
    · refine own_upd (L := [k]) (own_upd (own_upd (L := []) HW.out HU1.out (by simp)) hu2 (fun g hg hm => HA.out g (by simpa using hm) hg)) ((Upd.refl _ _).setCell (p := ⟨k, 0, none⟩) (by simp) _) (fun g hg hm => ?_)
      simp only [List.mem_cons, List.not_mem_nil, or_false] at hm
      subst hm
      exact HNE.out.2 hg
  have HOB1 := hd hob1
  clear hb2 ho1 hu2 hob1
  go_upto_region 3 with fail
  obtain ⟨W3, hW3, hu3, hb3, ho1, ho2⟩ := e3
  rw [hW3]
  have HU3 := hd hu3
  have hc3 := hb3.cell
  have hlt3 := hb3.lt
  have HB3 := hd hb3
  have HO1 := hd ho1
  have HD2 := hd (delete_any F fs cs p B d.waits _ W3 ho2 ((HS.out.later hu3 (fun x hx => hx)).mono (fun i hi => (HM.out i).2 (.inr (.inr (by simpa using hi)))) (fun x hx => List.mem_append_right _ hx)) hl2)
  clear hW3 hu3 hb3 ho1 ho2 hc2 hz2
  go_wp2_with fail
  refine HD2.out.mono ?_
  rintro e w4 ⟨v2, rfl, ho2, hu4, hob2⟩
  have hkn2 : k ∉ (Value.slice a2 d.waits.length n2).ownBlock.toList := fun hm => HNE.out.2 (by simpa using hm)
  have hb4 := HB3.out.upd hu4 hkn2
  have hc4 := hb4.cell
  have hz4 := hb4.frozen
  have hlt4 := hb4.lt
  obtain ⟨b2, m2, rfl, -⟩ := own_open ho2
  have e5 : ∃ W5, w4.setCell ⟨k, 1, none⟩ (.slice b2 (d.waits.filter fun x => !p x).length m2) = W5 ∧ Upd (foot k (.slice a1 d.held.length n1) (.slice a2 d.waits.length n2)) w W5 ∧ Blk W5 k #[.slice b1 (d.held.filter fun x => !p x).length m1, .slice b2 (d.waits.filter fun x => !p x).length m2, .int .u64 d.last] 62 ∧ LkRow B W5 (.slice b1 (d.held.filter fun x => !p x).length m1) (d.held.filter fun x => !p x) ∧ LkRow B W5 (.slice b2 (d.waits.filter fun x => !p x).length m2) (d.waits.filter fun x => !p x) := by
    refine ⟨_, rfl, ?_, hb4.set 1 _, ?_, ?_⟩
    · refine (HU3.out.trans (hu4.mono (fun i hi => .inl ((HM.out i).2 (.inr (.inr (by simpa using hi))))))).setCell (.inl ((HM.out k).2 (.inl rfl))) _
    · refine own_upd (L := [k]) (own_upd HO1.out hu4 (fun g hg hm => HA.out g (by rw [← HOB1.out]; exact hg) (by simpa using hm))) ((Upd.refl _ _).setCell (p := ⟨k, 1, none⟩) (by simp) _) (fun g hg hm => ?_)
      simp only [List.mem_cons, List.not_mem_nil, or_false] at hm
      subst hm
      rw [HOB1.out] at hg
      exact HNE.out.1 hg
    · exact own_upd (L := [k]) ho2 ((Upd.refl _ _).setCell (p := ⟨k, 1, none⟩) (by simp) _) (fun g hg hm => by
        simp only [List.mem_cons, List.not_mem_nil, or_false] at hm
        subst hm
        rw [hob2] at hg
        exact HNE.out.2 hg)
  have HOB2 := hd hob2
  clear hb4 ho2 hu4 hob2
  go_upto_region 4 with fail
  obtain ⟨W5, hW5, hu5, hb5, ho1, ho2⟩ := e5
  rw [hW5]
  have HU5 := hd hu5
  have hk5 : ∀ (y : Later [] W5) o', y.world.cell? ⟨k, o', none⟩ = #[.slice b1 (d.held.filter fun x => !p x).length m1, .slice b2 (d.waits.filter fun x => !p x).length m2, .int .u64 d.last][o']? := fun y => (hb5.upd y.upd (by simp)).cell
  have HB5 := hd hb5
  have HO1' := hd ho1
  have HO2' := hd ho2
  clear hW5 hu5 hb5 ho1 ho2 hc4 hz4 hc3 HO1
  have hf1 := HF1.out
  have hf2 := HF2.out
  have HR : Hd (LkRow B W5 (.slice b1 (d.held.filter fun x => !p x).length m1) D.held ∧ LkRow B W5 (.slice b2 (d.waits.filter fun x => !p x).length m2) D.waits ∧ Blk W5 k (D.cells (.slice b1 (d.held.filter fun x => !p x).length m1) (.slice b2 (d.waits.filter fun x => !p x).length m2)) 62 ∧ D.held.length = (d.held.filter fun x => !p x).length ∧ D.waits.length = (d.waits.filter fun x => !p x).length) := hd (by rw [HQ.out]; exact ⟨HO1'.out, HO2'.out, HB5.out, rfl, rfl⟩)
  clear HO1' HO2' HQ HF1 HF2 HB5
  have HR2 := hd (show BookAt B W5 k (.slice b1 (d.held.filter fun x => !p x).length m1) (.slice b2 (d.waits.filter fun x => !p x).length m2) D from ⟨HR.out.2.2.1, HR.out.1, HR.out.2.1, fun g hg hg' => HA.out g (by rw [← HOB1.out]; exact hg) (by rw [← HOB2.out]; exact hg')⟩)
  have HL1 := hd HR.out.2.2.2.1
  have HL2 := hd HR.out.2.2.2.2
  clear HR
  generalize (d.held.filter fun x => !p x).length = f1 at *
  generalize (d.waits.filter fun x => !p x).length = f2 at *
  refine wp_region_later [] (by kernel_rfl) (by kernel_rfl) ?_
  repeat (go_big_quiet_step (fail))
  refine wpQuiet_nil ?_
  intro W6 hu6
  have HU6 := hd (HU5.out.trans (hu6.mono (by simp)))
  have HR3 := hd (HR2.out.later hu6)
  clear hk5 hu6 HR2
  go_wp2_with fail
  go_ret
  exact ⟨_, _, by rw [HL1.out, HL2.out]; rfl, HR3.out, HU6.out, HOB1.out, HOB2.out⟩
end Go.Proofs.YtpniggmdokkkcaaGreatDoor

/-
  locks: Release, Drop, walked. Conditions: the book keeps what a book keeps; the library's variables hold what they are laid to hold.
-/
set_option linter.unusedVariables false
set_option linter.unusedSimpArgs false
set_option maxRecDepth 100000
namespace Go.Proofs.YtpniggmdokkkcaaGreatDoor
open Go.RowKit

theorem dropB_wf {p : LkS → Bool} {d : BkS} (h : WfB d) : WfB (dropB p d) :=
  ⟨fun y hy => h.six1 y (List.mem_filter.1 hy).1, fun y hy => h.six2 y (List.mem_filter.1 hy).1, List.Pairwise.filter _ h.sorted, by
    have h1 := List.length_filter_le (fun x => !p x) d.held
    have h2 := List.length_filter_le (fun x => !p x) d.waits
    have := h.few
    show (d.held.filter (fun x => !p x)).length + (d.waits.filter (fun x => !p x)).length ≤ 900
    omega, h.low, h.high⟩
/-- A path is given up: the book, what is granted, the error's number. -/
def relP (ins : List LkS → LkS → List LkS) (d : BkS) (s : Int) (p : List (List UInt8)) : BkS × List LkS × Int :=
  if (d.held.length : Int) + d.waits.length - (dropB (sameB ⟨s, p, false, 0⟩) d).held.length - (dropB (sameB ⟨s, p, false, 0⟩) d).waits.length = 0 then (dropB (sameB ⟨s, p, false, 0⟩) d, [], 20)
  else ((pumpP ins (dropB (sameB ⟨s, p, false, 0⟩) d)).1, (pumpP ins (dropB (sameB ⟨s, p, false, 0⟩) d)).2, 0)
def drpP (ins : List LkS → LkS → List LkS) (d : BkS) (s : Int) : BkS × List LkS := pumpP ins (dropB (fun y => decide (y.ses = s)) d)

set_option maxHeartbeats 4000000 in
theorem release_any {B k : Nat} {vh vw : Value} {d : BkS} (s : Int) (p : List (List UInt8)) (w : World) (h : BookAt B w k vh vw d) (hf : WfB d) (hD : Door w) (hE : 1 ∉ foot k vh vw) (hM : 0 ∉ foot k vh vw) (hB : B ≤ w.heap.size) :
    Calls Tryz.prog 20 #[.pointer (some ⟨k, 0, none⟩), .int .i64 s, .agg #[.string (txt (textL p))]] w fun e w' =>
      ∃ vh' vw' vo, e = .returned (.tuple #[vo, .int .i64 (relP insK d s p).2.2]) ∧ BookAt B w' k vh' vw' (relP insK d s p).1 ∧ LkRow w.heap.size w' vo (relP insK d s p).2.1 ∧ Upd (foot k vh vw) w w' ∧ (∀ g ∈ foot k vh' vw', g ∈ foot k vh vw ∨ w.heap.size ≤ g) := by
  have e0 := one_lk w #[.string (txt (textL p))] 40
  have hfew := hf.few
  have HDR := hd (fun W (hu : Upd [] w W) => drop_any 40 _ _ _ W (h.later hu) (says_same (foot k vh vw) ⟨s, p, false, 0⟩ (d.held ++ d.waits) W) (by omega) (by omega))
  have HR := hd (show relP insK d s p = if (d.held.length : Int) + d.waits.length - (dropB (sameB ⟨s, p, false, 0⟩) d).held.length - (dropB (sameB ⟨s, p, false, 0⟩) d).waits.length = 0 then (dropB (sameB ⟨s, p, false, 0⟩) d, [], 20)
    else ((pumpP insK (dropB (sameB ⟨s, p, false, 0⟩) d)).1, (pumpP insK (dropB (sameB ⟨s, p, false, 0⟩) d)).2, 0) from rfl)
  have HWF := hd (dropB_wf (p := sameB ⟨s, p, false, 0⟩) hf)
  have HDD := hd hD
  unfold LkS.val at HDR
  simp only at HDR
  generalize relP insK d s p = R at *
  generalize dropB (sameB ⟨s, p, false, 0⟩) d = D at *
  generalize (d.held.length : Int) + d.waits.length - D.held.length - D.waits.length = cn at *
  generalize textL p = tx at *
  clear h hf hD
  go_enter Tryz.func20, Tryz.ntmps20
  go_upto_region 1 with fail
  obtain ⟨W, kp, hkp, hW, hu, hb⟩ := e0
  rw [hW, hkp]
  have hc := hb.cell
  have HU := hd hu
  have HDR1 := hd (HDR.out W hu)
  clear hW hkp hu hb HDR
  go_wp2_with fail
  refine HDR1.out.mono ?_
  rintro e w1 ⟨vh1, vw1, rfl, hbk, hu1, hv1, hw1⟩
  have HBK := hd hbk
  have HU1 := hd ((HU.out.mono (M := foot k vh vw) (by simp)).trans hu1)
  have HFT := hd (show foot k vh1 vw1 = foot k vh vw by unfold foot; rw [hv1, hw1])
  have HVV := hd hv1
  clear hbk hu1 hv1 hw1 hc
  by_cases h0 : cn = 0
  · have h0' : (cn == 0) = true := by simpa using h0
    have HR1 := hd (HR.out.trans (if_pos h0))
    clear h0
    go_wp2_with fail
    go_ret2
    refine ⟨vh1, vw1, .slice none 0 0, by rw [HR1.out]; rfl, by rw [HR1.out]; exact HBK.out, by rw [HR1.out]; exact World.ownsRow_nil _ _ _ _, HU1.out, fun g hg => .inl (by rw [← HFT.out]; exact hg)⟩
  · have h0' : (cn == 0) = false := by simpa using h0
    have HR1 := hd (HR.out.trans (if_neg h0))
    have hB1 : B ≤ w1.heap.size := by have := HU1.out.size; omega
    have hnE : 1 ≠ k ∧ vh1.ownBlock ≠ some 1 := ⟨fun e => hE (mem_foot.2 (.inl e)), fun e => hE (mem_foot.2 (.inr (.inl (by rw [← HVV.out]; exact e))))⟩
    have hnM : 0 ≠ k ∧ vh1.ownBlock ≠ some 0 := ⟨fun e => hM (mem_foot.2 (.inl e)), fun e => hM (mem_foot.2 (.inr (.inl (by rw [← HVV.out]; exact e))))⟩
    have HPM := hd (pump_any w1 HBK.out HWF.out (HDD.out.upd HU1.out hE hM) hnE hnM hB1)
    clear h0
    go_wp2_with fail
    refine HPM.out.mono ?_
    rintro e w2 ⟨vh2, vw2, vo, rfl, hbk2, ho2, hu2, hf2⟩
    obtain ⟨ao, co, rfl, -⟩ := own_open ho2
    have HBK2 := hd hbk2
    have HO2 := hd (own_mono ho2 HU1.out.size)
    have HU2 := hd (HU1.out.trans (hu2.mono (fun i hi => .inl (by
      rw [← HFT.out]
      rcases List.mem_cons.1 hi with e | hm
      · exact mem_foot.2 (.inl e)
      · exact mem_foot.2 (.inr (.inl (by simpa using hm)))))))
    have HF2 := hd hf2
    clear hbk2 ho2 hu2 hf2
    go_wp2_with fail
    go_ret2
    refine ⟨vh2, vw2, .slice ao (pumpP insK D).2.length co, by rw [HR1.out]; rfl, by rw [HR1.out]; exact HBK2.out, by rw [HR1.out]; exact HO2.out, HU2.out, fun g hg => ?_⟩
    rcases HF2.out g hg with e | e
    · exact .inl (by rw [← HFT.out]; exact e)
    · exact .inr (by have := HU1.out.size; omega)

set_option maxHeartbeats 4000000 in
theorem bdrop_any {B k : Nat} {vh vw : Value} {d : BkS} (s : Int) (w : World) (h : BookAt B w k vh vw d) (hf : WfB d) (hD : Door w) (hE : 1 ∉ foot k vh vw) (hM : 0 ∉ foot k vh vw) (hB : B ≤ w.heap.size) :
    Calls Tryz.prog 27 #[.pointer (some ⟨k, 0, none⟩), .int .i64 s] w fun e w' =>
      ∃ vh' vw' vo, e = .returned vo ∧ BookAt B w' k vh' vw' (drpP insK d s).1 ∧ LkRow w.heap.size w' vo (drpP insK d s).2 ∧ Upd (foot k vh vw) w w' ∧ (∀ g ∈ foot k vh' vw', g ∈ foot k vh vw ∨ w.heap.size ≤ g) := by
  have e0 := one_lk w #[.int .i64 s] 3
  have hfew := hf.few
  have hfl := h.lt
  have HDR := hd (fun W (hu : Upd [] w W) c (hb : Blk W c #[.int .i64 s] 3) (hc : w.heap.size ≤ c) => drop_any 50 _ _ _ W (h.later hu) (says_drop (foot k vh vw) s c (d.held ++ d.waits) W hb (fun hm => by have := hfl c hm; omega)) (by omega) (by omega))
  have HR := hd (show drpP insK d s = pumpP insK (dropB (fun y => decide (y.ses = s)) d) from rfl)
  have HWF := hd (dropB_wf (p := fun y => decide (y.ses = s)) hf)
  have HDD := hd hD
  generalize drpP insK d s = R at *
  generalize dropB (fun y => decide (y.ses = s)) d = D at *
  clear h hf hD hfl
  go_enter Tryz.func27, Tryz.ntmps27
  go_upto_region 1 with fail
  obtain ⟨W, kp, hkp, hW, hu, hb⟩ := e0
  rw [hW, hkp]
  have HU := hd hu
  have HDR1 := hd (HDR.out W hu kp hb (by omega))
  clear hW hkp hu hb HDR
  go_wp2_with fail
  refine HDR1.out.mono ?_
  rintro e w1 ⟨vh1, vw1, rfl, hbk, hu1, hv1, hw1⟩
  have HBK := hd hbk
  have HU1 := hd ((HU.out.mono (M := foot k vh vw) (by simp)).trans hu1)
  have HFT := hd (show foot k vh1 vw1 = foot k vh vw by unfold foot; rw [hv1, hw1])
  have HVV := hd hv1
  clear hbk hu1 hv1 hw1
  have hB1 : B ≤ w1.heap.size := by have := HU1.out.size; omega
  have hnE : 1 ≠ k ∧ vh1.ownBlock ≠ some 1 := ⟨fun e => hE (mem_foot.2 (.inl e)), fun e => hE (mem_foot.2 (.inr (.inl (by rw [← HVV.out]; exact e))))⟩
  have hnM : 0 ≠ k ∧ vh1.ownBlock ≠ some 0 := ⟨fun e => hM (mem_foot.2 (.inl e)), fun e => hM (mem_foot.2 (.inr (.inl (by rw [← HVV.out]; exact e))))⟩
  have HPM := hd (pump_any w1 HBK.out HWF.out (HDD.out.upd HU1.out hE hM) hnE hnM hB1)
  go_wp2_with fail
  refine HPM.out.mono ?_
  rintro e w2 ⟨vh2, vw2, vo, rfl, hbk2, ho2, hu2, hf2⟩
  obtain ⟨ao, co, rfl, -⟩ := own_open ho2
  have HBK2 := hd hbk2
  have HO2 := hd (own_mono ho2 HU1.out.size)
  have HU2 := hd (HU1.out.trans (hu2.mono (fun i hi => .inl (by
    rw [← HFT.out]
    rcases List.mem_cons.1 hi with e | hm
    · exact mem_foot.2 (.inl e)
    · exact mem_foot.2 (.inr (.inl (by simpa using hm)))))))
  have HF2 := hd hf2
  clear hbk2 ho2 hu2 hf2
  go_wp2_with fail
  go_ret
  refine ⟨vh2, vw2, _, rfl, by rw [HR.out]; exact HBK2.out, by rw [HR.out]; exact HO2.out, HU2.out, fun g hg => ?_⟩
  rcases HF2.out g hg with e | e
  · exact .inl (by rw [← HFT.out]; exact e)
  · exact .inr (by have := HU1.out.size; omega)
end Go.Proofs.YtpniggmdokkkcaaGreatDoor
