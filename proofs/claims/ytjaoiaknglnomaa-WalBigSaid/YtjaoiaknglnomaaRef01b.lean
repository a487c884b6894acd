/-
  The reference's cursor (chatelaineref01.fail, take, Done), walked: it answers as code.Reader. Condition: texts of sizes that there are.
-/
import Derived.Test.YtjaoiaknglnomaaRef12a
import Derived.BigRegion
import Derived.Deep.DeepCutAuto
set_option linter.unusedVariables false
set_option linter.unusedSimpArgs false
set_option maxRecDepth 100000
namespace Go.Proofs.Ytjaoiaknglnomaa
open Go.RowKit

theorem set2 {w : World} {k T : Nat} {a0 a1 : Value} (h : Blk w k #[a0, a1] T) (v0 v1 : Value) :
    ∃ W, ((w.setCell ⟨k, 0, none⟩ v0).setCell ⟨k, 1, none⟩ v1) = W ∧ Upd [k] w W ∧ Blk W k #[v0, v1] T := by
  have h0 : Blk _ k #[v0, a1] T := h.set 0 v0
  have h1 : Blk _ k #[v0, v1] T := h0.set 1 v1
  have hx := Upd.refl [k] w
  exact ⟨_, rfl, (by repeat (first | with_reducible exact hx | with_reducible exact Upd.refl _ _ | with_reducible refine Upd.alloc ?_ _ | with_reducible refine Upd.drew ?_ | with_reducible refine Upd.setCell ?_ (by first | (simp; done) | (simp; omega)) _)), h1⟩

set_option maxHeartbeats 2000000 in
theorem refFail_any (r : RdS) (e : Int) (w : World) :
    Calls Try.prog 97 #[.agg #[.string (txt r.left), .int .i64 r.err], .int .i64 e] w fun x w' => x = .returned (.agg #[.string (txt (r.fail e).left), .int .i64 (r.fail e).err]) ∧ Upd [] w w' := by
  obtain ⟨l, er⟩ := r
  have e2 := two_new2 w #[.string (txt l), .int .i64 er] #[.string ⟨#[]⟩, .int .i64 0] 131 131
  by_cases h0 : er = 0
  · have HF := hd (show RdS.fail ⟨l, er⟩ e = ⟨l, e⟩ by unfold RdS.fail; rw [if_pos h0])
    rw [HF.out]
    have h0' : (er == 0) = true := by simpa using h0
    clear h0
    go_enter Try.func97, Try.ntmps97
    go_upto_region 1 with fail
    obtain ⟨W, hW, hu, hA, hB, hsz⟩ := e2
    rw [hW]
    clear hW hsz
    have hac := hA.cell
    have haz := hA.frozen
    have e3 : ∃ W1, W.setCell ⟨w.heap.size, 1, none⟩ (.int .i64 e) = W1 ∧ Upd [] w W1 ∧ Blk W1 w.heap.size #[.string (txt l), .int .i64 e] 131 ∧ Blk W1 (w.heap.size + 1) #[.string ⟨#[]⟩, .int .i64 0] 131 :=
      ⟨_, rfl, hu.trans' ((Upd.refl [w.heap.size] W).setCell (by simp) _) (by intro i hi; simp at hi; omega), hA.set 1 _, hB.set_other (by simp) _⟩
    go_upto_region 3 with fail
    obtain ⟨W1, hW1, hu1, hA1, hB1⟩ := e3
    rw [hW1]
    clear hW1 hac haz hA hB hu
    have hac := hA1.cell
    have hbq := hB1.cell
    have hbz := hB1.frozen
    obtain ⟨W2, e8, u8, b8⟩ := set2 hB1 (.string (txt l)) (.int .i64 e)
    have HE := hd e8
    have HU := hd (hu1.trans' u8 (by intro i hi; simp at hi; omega))
    have HB := hd b8
    clear e8 u8 b8 hA1 hB1 hu1
    go_wp2_with fail
    rw [HE.out]
    have hbc := HB.out.cell
    refine bodyPost_ret (v := .agg #[.string (txt l), .int .i64 e]) (by simp [results, Try.results97, go_sem, hbc]) rfl ?_
    exact ⟨rfl, HU.out⟩
  · have HF := hd (show RdS.fail ⟨l, er⟩ e = ⟨l, er⟩ by unfold RdS.fail; rw [if_neg h0])
    rw [HF.out]
    have h0' : (er == 0) = false := by simpa using h0
    clear h0
    go_enter Try.func97, Try.ntmps97
    go_upto_region 1 with fail
    obtain ⟨W, hW, hu, hA, hB, hsz⟩ := e2
    rw [hW]
    clear hW hsz
    have hac := hA.cell
    have hbq := hB.cell
    have hbz := hB.frozen
    obtain ⟨W2, e8, u8, b8⟩ := set2 hB (.string (txt l)) (.int .i64 er)
    have HE := hd e8
    have HU := hd (hu.trans' u8 (by intro i hi; simp at hi; omega))
    have HB := hd b8
    clear e8 u8 b8 hA hB hu
    go_wp2_with fail
    rw [HE.out]
    have hbc := HB.out.cell
    refine bodyPost_ret (v := .agg #[.string (txt l), .int .i64 er]) (by simp [results, Try.results97, go_sem, hbc]) rfl ?_
    exact ⟨rfl, HU.out⟩

set_option maxHeartbeats 2000000 in
theorem refDone_any (r : RdS) (w : World) :
    Calls Try.prog 78 #[.agg #[.string (txt r.left), .int .i64 r.err]] w fun x w' => x = .returned (.agg #[.string (txt r.done.left), .int .i64 r.done.err]) ∧ Upd [] w w' := by
  have HD := hd (show r.done = if r.left = [] then r else r.fail 4 from rfl)
  have HFA := hd (fun W => refFail_any r 4 W)
  obtain ⟨l, er⟩ := r
  simp only at HD HFA
  have e2 := two_new2 w #[.string (txt l), .int .i64 er] #[.string ⟨#[]⟩, .int .i64 0] 131 131
  by_cases h0 : l = []
  · have ht : (txt l).toList = [] := by rw [txt_list]; exact h0
    rw [HD.out, if_pos h0]
    clear h0
    go_enter Try.func78, Try.ntmps78
    go_upto_region 1 with fail
    obtain ⟨W, hW, hu, hA, hB, hsz⟩ := e2
    rw [hW]
    clear hW hsz
    have hac := hA.cell
    have hbq := hB.cell
    have hbz := hB.frozen
    obtain ⟨W2, e8, u8, b8⟩ := set2 hB (.string (txt l)) (.int .i64 er)
    have HE := hd e8
    have HU := hd (hu.trans' u8 (by intro i hi; simp at hi; omega))
    have HB := hd b8
    clear e8 u8 b8 hA hB hu
    go_wp2_with fail
    rw [HE.out]
    have hbc := HB.out.cell
    refine bodyPost_ret (v := .agg #[.string (txt l), .int .i64 er]) (by simp [results, Try.results78, go_sem, hbc]) rfl ?_
    exact ⟨rfl, HU.out⟩
  · have ht : ¬ (txt l).toList = [] := by rw [txt_list]; exact h0
    have ht' : (!(txt l).toList.isEmpty) = true := by simpa using ht
    rw [HD.out, if_neg h0]
    generalize RdS.fail ⟨l, er⟩ 4 = q at *
    obtain ⟨l2, er2⟩ := q
    clear h0
    go_enter Try.func78, Try.ntmps78
    go_upto_region 1 with fail
    obtain ⟨W, hW, hu, hA, hB, hsz⟩ := e2
    rw [hW]
    clear hW hsz
    have hac := hA.cell
    have HU := hd hu
    have HB := hd hB
    clear hu hB
    go_wp2_with fail
    refine (HFA.out W).mono ?_
    rintro x w1 ⟨rfl, hu1⟩
    have hB1 := HB.out.upd hu1 (by simp)
    have hbq := hB1.cell
    have hbz := hB1.frozen
    obtain ⟨W2, e8, u8, b8⟩ := set2 hB1 (.string (txt l2)) (.int .i64 er2)
    have HE := hd e8
    have HU2 := hd ((HU.out.trans hu1).trans' u8 (by intro i hi; simp at hi; omega))
    have HB2 := hd b8
    clear e8 u8 b8 hB1 hu1 hA
    go_wp2_with fail
    rw [HE.out]
    have hbc := HB2.out.cell
    refine bodyPost_ret (v := .agg #[.string (txt l2), .int .i64 er2]) (by simp [results, Try.results78, go_sem, hbc]) rfl ?_
    exact ⟨rfl, HU2.out⟩

set_option maxHeartbeats 4000000 in
theorem refTake_any (r : RdS) (n : Nat) (w : World) (hl : r.left.length ≤ 1099511627776) (hn : n ≤ 1099511627776) :
    Calls Try.prog 96 #[.agg #[.string (txt r.left), .int .i64 r.err], .int .i64 n] w fun x w' =>
      x = .returned (.tuple #[.agg #[.string (txt (r.take n).2.left), .int .i64 (r.take n).2.err], .string (txt (r.take n).1)]) ∧ Upd [] w w' := by
  have HT := hd (show r.take n = if r.err = 0 then (if r.left.length < n then ([], { r with err := 3 }) else (r.left.take n, ⟨r.left.drop n, 0⟩)) else ([], r) from rfl)
  obtain ⟨l, er⟩ := r
  simp only at HT hl ⊢
  have e2 := two_new2 w #[.string (txt l), .int .i64 er] #[.string ⟨#[]⟩, .int .i64 0] 131 131
  by_cases h0 : er = 0
  · have h0' : (er == 0) = true := by simpa using h0
    rw [if_pos h0] at HT
    subst h0
    by_cases hg : l.length < n
    · have hg' : (l.length : Int) < (n : Int) := by omega
      rw [HT.out, if_pos hg]
      clear h0' HT hg
      go_enter Try.func96, Try.ntmps96
      go_upto_region 1 with fail
      obtain ⟨W, hW, hu, hA, hB, hsz⟩ := e2
      rw [hW]
      clear hW hsz
      have hac := hA.cell
      have haz := hA.frozen
      have e3 : ∃ W1, W.setCell ⟨w.heap.size, 1, none⟩ (.int .i64 3) = W1 ∧ Upd [] w W1 ∧ Blk W1 w.heap.size #[.string (txt l), .int .i64 3] 131 ∧ Blk W1 (w.heap.size + 1) #[.string ⟨#[]⟩, .int .i64 0] 131 :=
        ⟨_, rfl, hu.trans' ((Upd.refl [w.heap.size] W).setCell (by simp) _) (by intro i hi; simp at hi; omega), hA.set 1 _, hB.set_other (by simp) _⟩
      go_upto_region 3 with fail
      obtain ⟨W1, hW1, hu1, hA1, hB1⟩ := e3
      rw [hW1]
      clear hW1 hac haz hA hB hu
      have hac := hA1.cell
      have hbq := hB1.cell
      have hbz := hB1.frozen
      obtain ⟨W2, e8, u8, b8⟩ := set2 hB1 (.string (txt l)) (.int .i64 3)
      have HE := hd e8
      have HU := hd (hu1.trans' u8 (by intro i hi; simp at hi; omega))
      have HB := hd b8
      clear e8 u8 b8 hA1 hB1 hu1
      go_wp2_with fail
      rw [HE.out]
      have hbc := HB.out.cell
      refine bodyPost_ret (v := .tuple #[.agg #[.string (txt l), .int .i64 3], .string ⟨#[]⟩]) (by simp [results, Try.results96, go_sem, hbc]) rfl ?_
      exact ⟨rfl, HU.out⟩
    · have hg' : ¬ (l.length : Int) < (n : Int) := by omega
      have hnl : n ≤ l.length := by omega
      have hx := txt_head l n (by omega)
      have hy := txt_tail l n
      rw [HT.out, if_neg hg]
      clear h0' HT hg
      go_enter Try.func96, Try.ntmps96
      go_upto_region 1 with fail
      obtain ⟨W, hW, hu, hA, hB, hsz⟩ := e2
      rw [hW]
      clear hW hsz
      have hac := hA.cell
      have hbq := hB.cell
      have hbz := hB.frozen
      obtain ⟨W2, e8, u8, b8⟩ := set2 hB (.string (txt (l.drop n))) (.int .i64 0)
      have HE := hd e8
      have HU := hd (hu.trans' u8 (by intro i hi; simp at hi; omega))
      have HB := hd b8
      clear e8 u8 b8 hA hB hu
      go_upto_region 5 with fail
      go_region_with fail
      all_goals
        go_wp2_with fail
        first
        | (rw [HE.out]
           have hbc := HB.out.cell
           refine bodyPost_ret (v := .tuple #[.agg #[.string (txt (l.drop n)), .int .i64 0], .string (txt (l.take n))]) (by simp [results, Try.results96, go_sem, hbc]) rfl ?_
           exact ⟨rfl, HU.out⟩)
        | (rw [HE.out]
           have hbc := HB.out.drew.cell
           refine bodyPost_ret (v := .tuple #[.agg #[.string (txt (l.drop n)), .int .i64 0], .string (txt (l.take n))]) (by simp [results, Try.results96, go_sem, hbc]) rfl ?_
           exact ⟨rfl, HU.out.drew⟩)
  · have h0' : (er == 0) = false := by simpa using h0
    have h0'' : (er != 0) = true := by simpa using h0
    rw [HT.out, if_neg h0]
    clear h0 HT
    go_enter Try.func96, Try.ntmps96
    go_upto_region 1 with fail
    obtain ⟨W, hW, hu, hA, hB, hsz⟩ := e2
    rw [hW]
    clear hW hsz
    have hac := hA.cell
    have hbq := hB.cell
    have hbz := hB.frozen
    obtain ⟨W2, e8, u8, b8⟩ := set2 hB (.string (txt l)) (.int .i64 er)
    have HE := hd e8
    have HU := hd (hu.trans' u8 (by intro i hi; simp at hi; omega))
    have HB := hd b8
    clear e8 u8 b8 hA hB hu
    go_wp2_with fail
    rw [HE.out]
    have hbc := HB.out.cell
    refine bodyPost_ret (v := .tuple #[.agg #[.string (txt l), .int .i64 er], .string ⟨#[]⟩]) (by simp [results, Try.results96, go_sem, hbc]) rfl ?_
    exact ⟨rfl, HU.out⟩
end Go.Proofs.Ytjaoiaknglnomaa
