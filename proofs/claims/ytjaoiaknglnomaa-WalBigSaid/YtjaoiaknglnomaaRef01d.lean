/-
  chatelaineref01.TakeN, TakeS, walked: they answer as code.Reader's N, S. Condition: texts of sizes that there are.
-/
import Derived.Test.YtjaoiaknglnomaaRef01c
set_option linter.unusedVariables false
set_option linter.unusedSimpArgs false
set_option maxRecDepth 100000
namespace Go.Proofs.Ytjaoiaknglnomaa
open Go.RowKit

theorem U_zero (r : RdS) (h : r.U.2.err ≠ 0) : r.U.1 = 0 := by
  by_cases h1 : (r.take 1).2.err = 0
  · obtain ⟨c, hc⟩ := take_one r h1
    by_cases hs : c.toNat < 252
    · rw [U_small r c hc hs] at h; exact absurd h1 h
    · by_cases h5 : c = 255
      · subst h5; rw [U_ff r hc h1]
      · obtain ⟨q1, q2⟩ := U_more r c hc (by omega) h5
        by_cases h2 : ((r.take 1).2.take (moreOf c)).2.err = 0
        · obtain ⟨_, q⟩ := q2 h2
          rw [q] at h ⊢
          split
          · rename_i hh
            rw [if_pos hh] at h
            exact absurd h2 h
          · rfl
        · rw [q1 h2]
  · rw [U_err r h1]
theorem N_nat (r : RdS) (most : Int) : (r.N most).1 = (((r.N most).1.toNat : Nat) : Int) := by
  unfold RdS.N
  split
  · rfl
  · simp
theorem N_le (r : RdS) (most : Int) (h : 0 ≤ most) : (r.N most).1 ≤ most := by
  unfold RdS.N
  split
  · exact h
  · simp only; omega

set_option maxHeartbeats 4000000 in
theorem refTakeN_any (r : RdS) (most : Int) (w : World) (hl : r.left.length ≤ 1099511627776) (hm0 : 0 ≤ most) (hm : most ≤ 1099511627776) :
    Calls Try.prog 98 #[.agg #[.string (txt r.left), .int .i64 r.err], .int .i64 most] w fun x w' =>
      x = .returned (.tuple #[.agg #[.string (txt (r.N most).2.left), .int .i64 (r.N most).2.err], .int .i64 (r.N most).1]) ∧ Upd [] w w' := by
  have HTU := hd (fun W => refTakeU_any r W hl)
  have HN := hd (show r.N most = if most < (r.U.1 : Int) then (0, r.U.2.fail 6) else ((r.U.1 : Int), r.U.2) from rfl)
  have HZ := hd (U_zero r)
  have hvl := U_lt r
  generalize RdS.N r most = R at *
  generalize RdS.U r = U at *
  obtain ⟨v, d⟩ := U
  obtain ⟨dl, de⟩ := d
  obtain ⟨l, er⟩ := r
  simp only at HTU HN HZ hvl hl
  have e2 := two_new2 w #[.string (txt l), .int .i64 er] #[.string ⟨#[]⟩, .int .i64 0] 131 131
  have hwm : IntKind.u64.wrap most = most := by rw [IntKind.wrap_u64]; omega
  go_enter Try.func98, Try.ntmps98
  go_upto_region 1 with fail
  obtain ⟨W, hW, hu, hA, hB, hsz⟩ := e2
  rw [hW]
  clear hW
  have hac := hA.cell
  have HU := hd hu
  have HB := hd hB
  clear hu hB
  go_wp2_with fail
  refine (HTU.out W).mono ?_
  rintro x w1 ⟨rfl, hu1⟩
  have e3 : ∃ W2 k4, w1.heap.size = k4 ∧ w1.alloc (.cells #[.string (txt dl), .int .i64 de] 131) = W2 ∧ Upd [] w1 W2 ∧ Blk W2 k4 #[.string (txt dl), .int .i64 de] 131 := ⟨_, _, rfl, rfl, (Upd.refl _ _).alloc _, Blk.new _ _ _⟩
  have HU1 := hd (HU.out.trans hu1)
  have HR1 := hd (HB.out.upd hu1 (by simp))
  have hlt1 := HR1.out.lt
  clear hu1 hac hA hsz HU HB
  go_upto_region 2 with fail
  obtain ⟨W2, k4, hk4, hW2, hu2, hD⟩ := e3
  rw [hW2, hk4]
  rw [hk4] at hlt1
  clear hW2 hk4
  have HU2 := hd (HU1.out.trans hu2)
  have hR2 := HR1.out.upd hu2 (by simp)
  have HR2 := hd hR2
  have HD2 := hd hD
  have hdc := hD.cell
  have hdz := hD.frozen
  have hrc := hR2.cell
  have hrz := hR2.frozen
  clear hu2 hR2 hD HU1 HR1
  by_cases hde : de = 0
  · have hde' : (de == 0) = true := by simp [hde]
    have hde'' : (de != 0) = false := by simp [hde]
    have HDE := hd hde
    by_cases hg : most < (v : Int)
    · have HX := hd (HN.out.trans (if_pos hg))
      have HXF := hd (show RdS.fail ⟨dl, de⟩ 6 = ⟨dl, 6⟩ by unfold RdS.fail; rw [if_pos hde])
      clear hde
      have e5 : ∃ W3, W2.setCell ⟨k4, 1, none⟩ (.int .i64 6) = W3 ∧ Upd [k4] W2 W3 ∧ Blk W3 k4 #[.string (txt dl), .int .i64 6] 131 := ⟨_, rfl, (Upd.refl _ _).setCell (by simp) _, HD2.out.set 1 _⟩
      go_upto_region 6 with fail
      obtain ⟨W3, hW3, hu3, hD3⟩ := e5
      rw [hW3]
      clear hW3 hdc hdz hrc hrz
      have hU3 := HU2.out.trans' hu3 (by intro i hi; simp at hi; omega)
      have hR3 := HR2.out.upd hu3 (by simp; omega)
      have hdc := hD3.cell
      have hrc := hR3.cell
      have hrz := hR3.frozen
      obtain ⟨W8, e8, u8, b8⟩ := set2 hR3 (.string (txt dl)) (.int .i64 6)
      have HE := hd e8
      have HUF := hd (hU3.trans' u8 (by intro i hi; simp at hi; omega))
      have HB8 := hd b8
      clear e8 u8 b8 hU3 hR3 hD3 hu3
      go_wp2_with fail
      rw [HE.out]
      have hbc := HB8.out.cell
      refine bodyPost_ret (v := .tuple #[.agg #[.string (txt dl), .int .i64 6], .int .i64 0]) (by simp [results, Try.results98, go_sem, hbc]) rfl ?_
      rw [HX.out, HXF.out]
      exact ⟨rfl, HUF.out⟩
    · have HX := hd (HN.out.trans (if_neg hg))
      have hwv : IntKind.i64.wrap (v : Int) = v := by rw [IntKind.wrap_i64]; omega
      have hvl : (v : Int) ≤ 1099511627776 := by omega
      clear hde
      obtain ⟨W8, e8, u8, b8⟩ := set2 HR2.out (.string (txt dl)) (.int .i64 de)
      have HE := hd e8
      have HUF := hd (HU2.out.trans' u8 (by intro i hi; simp at hi; omega))
      have HB8 := hd b8
      clear e8 u8 b8
      go_wp2_with fail
      rw [HE.out]
      have hbc := HB8.out.cell
      refine bodyPost_ret (v := .tuple #[.agg #[.string (txt dl), .int .i64 de], .int .i64 (v : Int)]) (by simp [results, Try.results98, go_sem, hbc]) rfl ?_
      rw [HX.out]
      exact ⟨rfl, HUF.out⟩
  · have hde' : (de == 0) = false := by simpa using hde
    have hde'' : (de != 0) = true := by simpa using hde
    have hv0 := HZ.out hde
    have HX := hd (show R = (0, ⟨dl, de⟩) by rw [HN.out, if_neg (by omega), hv0]; rfl)
    clear hde hv0
    obtain ⟨W8, e8, u8, b8⟩ := set2 HR2.out (.string (txt dl)) (.int .i64 de)
    have HE := hd e8
    have HUF := hd (HU2.out.trans' u8 (by intro i hi; simp at hi; omega))
    have HB8 := hd b8
    clear e8 u8 b8
    go_wp2_with fail
    rw [HE.out]
    have hbc := HB8.out.cell
    refine bodyPost_ret (v := .tuple #[.agg #[.string (txt dl), .int .i64 de], .int .i64 0]) (by simp [results, Try.results98, go_sem, hbc]) rfl ?_
    rw [HX.out]
    exact ⟨rfl, HUF.out⟩

set_option maxHeartbeats 4000000 in
theorem refTakeS_any (r : RdS) (most : Int) (w : World) (hl : r.left.length ≤ 1099511627776) (hm0 : 0 ≤ most) (hm : most ≤ 1099511627776) :
    Calls Try.prog 77 #[.agg #[.string (txt r.left), .int .i64 r.err], .int .i64 most] w fun x w' =>
      x = .returned (.tuple #[.agg #[.string (txt (r.S most).2.left), .int .i64 (r.S most).2.err], .string (txt (r.S most).1)]) ∧ Upd [] w w' := by
  have HTN := hd (fun W => refTakeN_any r most W hl hm0 hm)
  have hnn := N_nat r most
  have hnm := N_le r most hm0
  have hnl : (r.N most).2.left.length ≤ r.left.length := by
    have := U_left r
    unfold RdS.N
    split
    · simp only; rw [fail_left]; exact this
    · exact this
  have HS := hd (show r.S most = (r.N most).2.take (r.N most).1.toNat from rfl)
  generalize RdS.S r most = R at *
  generalize RdS.N r most = N at *
  obtain ⟨n, d⟩ := N
  obtain ⟨l, er⟩ := r
  simp only at HTN HS hnn hnm hnl hl
  obtain ⟨n, rfl⟩ : ∃ k : Nat, n = k := ⟨n.toNat, hnn⟩
  clear hnn
  have HT := hd (fun W => refTake_any d n W (by omega) (by omega))
  rw [Int.toNat_natCast] at HS
  rw [← HS.out] at HT
  obtain ⟨dl, de⟩ := d
  obtain ⟨s, q⟩ := R
  obtain ⟨ql, qe⟩ := q
  simp only at HTN HT
  have e2 := two_new2 w #[.string (txt l), .int .i64 er] #[.string ⟨#[]⟩, .int .i64 0] 131 131
  go_enter Try.func77, Try.ntmps77
  go_upto_region 1 with fail
  obtain ⟨W, hW, hu, hA, hB, hsz⟩ := e2
  rw [hW]
  clear hW
  have hac := hA.cell
  have HU := hd hu
  have HB := hd hB
  clear hu hB
  go_wp2_with fail
  refine (HTN.out W).mono ?_
  rintro x w1 ⟨rfl, hu1⟩
  have e3 : ∃ W2 k4, w1.heap.size = k4 ∧ w1.alloc (.cells #[.string (txt dl), .int .i64 de] 131) = W2 ∧ Upd [] w1 W2 ∧ Blk W2 k4 #[.string (txt dl), .int .i64 de] 131 := ⟨_, _, rfl, rfl, (Upd.refl _ _).alloc _, Blk.new _ _ _⟩
  have HU1 := hd (HU.out.trans hu1)
  have HR1 := hd (HB.out.upd hu1 (by simp))
  have hlt1 := HR1.out.lt
  clear hu1 hac hA hsz HU HB
  go_upto_region 2 with fail
  obtain ⟨W2, k4, hk4, hW2, hu2, hD⟩ := e3
  rw [hW2, hk4]
  rw [hk4] at hlt1
  clear hW2 hk4
  have HU2 := hd (HU1.out.trans hu2)
  have HR2 := hd (HR1.out.upd hu2 (by simp))
  have hdc := hD.cell
  clear hu2 hD HU1 HR1
  go_wp2_with fail
  refine (HT.out W2).mono ?_
  rintro x w3 ⟨rfl, hu3⟩
  have hR3 := HR2.out.upd hu3 (by simp)
  have HU3 := hd (HU2.out.trans hu3)
  have hrc := hR3.cell
  have hrz := hR3.frozen
  obtain ⟨W8, e8, u8, b8⟩ := set2 hR3 (.string (txt ql)) (.int .i64 qe)
  have HE := hd e8
  have HUF := hd (HU3.out.trans' u8 (by intro i hi; simp at hi; omega))
  have HB8 := hd b8
  clear e8 u8 b8 hR3 hu3 hdc
  go_wp2_with fail
  rw [HE.out]
  have hbc := HB8.out.cell
  refine bodyPost_ret (v := .tuple #[.agg #[.string (txt ql), .int .i64 qe], .string (txt s)]) (by simp [results, Try.results77, go_sem, hbc]) rfl ?_
  exact ⟨rfl, HUF.out⟩
end Go.Proofs.Ytjaoiaknglnomaa
