/-
  chatelaineref01.TakeU, walked: it answers as code.Reader's U. Condition: texts of sizes that there are.
-/
import Derived.Test.YtjaoiaknglnomaaWm10
set_option linter.unusedVariables false
set_option linter.unusedSimpArgs false
set_option maxRecDepth 100000
namespace Go.Proofs.Ytjaoiaknglnomaa
open Go.RowKit

theorem take_none (r : RdS) (n : Nat) (h : (r.take n).2.err ≠ 0) : (r.take n).1 = [] := by
  unfold RdS.take at *
  by_cases h0 : r.err = 0
  · rw [if_pos h0] at h ⊢
    by_cases h1 : r.left.length < n
    · rw [if_pos h1]
    · rw [if_neg h1] at h; exact absurd rfl h
  · rw [if_neg h0]
theorem take_len (r : RdS) (n : Nat) (h : (r.take n).2.err = 0) : (r.take n).1.length = n := by
  unfold RdS.take at *
  by_cases h0 : r.err = 0
  · rw [if_pos h0] at h ⊢
    by_cases h1 : r.left.length < n
    · rw [if_pos h1] at h; exact absurd h (show ¬ ((3 : Int) = 0) by decide)
    · rw [if_neg h1]; simp only [List.length_take]; omega
  · rw [if_neg h0] at h; exact absurd h h0
theorem take_one (r : RdS) (h : (r.take 1).2.err = 0) : ∃ c, (r.take 1).1 = [c] := by
  have := take_len r 1 h
  match hs : (r.take 1).1, this with
  | [c], _ => exact ⟨c, rfl⟩
theorem take_zero (l : List UInt8) : RdS.take ⟨l, 0⟩ 0 = ([], ⟨l, 0⟩) := by
  unfold RdS.take
  rw [if_pos rfl, if_neg (by omega)]
  rfl
theorem U_err (r : RdS) (h : (r.take 1).2.err ≠ 0) : r.U = (0, (r.take 1).2) := by
  unfold RdS.U
  rw [take_none r 1 h]
theorem U_small (r : RdS) (c : UInt8) (hs : (r.take 1).1 = [c]) (hc : c.toNat < 252) : r.U = (c.toNat, (r.take 1).2) := by
  unfold RdS.U
  rw [hs]
  simp only
  rw [if_pos hc]
theorem fail_err (r : RdS) (e : Int) (h : r.err ≠ 0) : r.fail e = r := by unfold RdS.fail; rw [if_neg h]
theorem fail_ok (r : RdS) (e : Int) (h : r.err = 0) : r.fail e = ⟨r.left, e⟩ := by unfold RdS.fail; rw [if_pos h]
theorem U_ff (r : RdS) (hs : (r.take 1).1 = [255]) (h : (r.take 1).2.err = 0) : r.U = (0, (r.take 1).2.fail 4) := by
  unfold RdS.U
  rw [hs]
  simp only
  rw [if_neg (by decide), if_pos trivial, fail_ok _ 4 h]
  have ht : RdS.take ⟨(r.take 1).2.left, 4⟩ (moreOf 255) = ([], ⟨(r.take 1).2.left, 4⟩) := by unfold RdS.take; rw [if_neg (show ¬ ((4 : Int) = 0) by decide)]
  rw [ht]
  simp only
  rw [if_neg (show ¬ (headOf (numOf [])).1 = 255 by decide), fail_err _ 4 (show (4 : Int) ≠ 0 by decide), if_neg (show ¬ ((4 : Int) = 0) by decide)]
theorem headOf_more (x : Nat) (c : UInt8) (h : (headOf x).1 = c) (hc : 252 ≤ c.toNat) : (headOf x).2 = moreOf c := by
  rcases headOf_cases x with ⟨a1, a2⟩ | ⟨a0, a1, a2⟩ | ⟨a0, a1, a2⟩ | ⟨a0, a2⟩
  · rw [a2] at h
    have := congrArg UInt8.toNat h
    simp at this
    omega
  · rw [a2] at h ⊢; subst h; rfl
  · rw [a2] at h ⊢; subst h; rfl
  · rw [a2] at h ⊢; subst h; rfl
/-- How a number behind a first byte from 252 to 254 is read. -/
theorem U_more (r : RdS) (c : UInt8) (hs : (r.take 1).1 = [c]) (hc : 252 ≤ c.toNat) (h5 : c ≠ 255) :
    (((r.take 1).2.take (moreOf c)).2.err ≠ 0 → r.U = (0, ((r.take 1).2.take (moreOf c)).2)) ∧
    (((r.take 1).2.take (moreOf c)).2.err = 0 → ((r.take 1).2.take (moreOf c)).1.length = moreOf c ∧
      r.U = if uBytes (numOf ((r.take 1).2.take (moreOf c)).1) = c :: ((r.take 1).2.take (moreOf c)).1 then (numOf ((r.take 1).2.take (moreOf c)).1, ((r.take 1).2.take (moreOf c)).2) else (0, ((r.take 1).2.take (moreOf c)).2.fail 4)) := by
  have hU : r.U = (if (if (headOf (numOf ((r.take 1).2.take (moreOf c)).1)).1 = c then ((r.take 1).2.take (moreOf c)).2 else ((r.take 1).2.take (moreOf c)).2.fail 4).err = 0 then numOf ((r.take 1).2.take (moreOf c)).1 else 0, if (headOf (numOf ((r.take 1).2.take (moreOf c)).1)).1 = c then ((r.take 1).2.take (moreOf c)).2 else ((r.take 1).2.take (moreOf c)).2.fail 4) := by
    unfold RdS.U
    rw [hs]
    simp only
    rw [if_neg (by omega), if_neg h5]
  have hlen := take_len (r.take 1).2 (moreOf c)
  generalize (r.take 1).2.take (moreOf c) = T at *
  obtain ⟨t, e⟩ := T
  simp only at hU hlen ⊢
  refine ⟨fun he => ?_, fun he => ⟨hlen he, ?_⟩⟩
  · rw [hU, fail_err e 4 he]
    simp [he]
  · have hiff : (headOf (numOf t)).1 = c ↔ uBytes (numOf t) = c :: t := by
      constructor
      · intro h
        have h2 := headOf_more _ c h hc
        unfold uBytes
        rw [h, h2, ← hlen he, wide_numOf]
      · intro h
        exact (List.cons.inj h).1
    rw [hU]
    by_cases hh : (headOf (numOf t)).1 = c
    · rw [if_pos hh, if_pos (hiff.1 hh), if_pos he]
    · rw [if_neg hh, if_neg (fun h => hh (hiff.2 h)), fail_ok e 4 he]
      simp

set_option maxHeartbeats 8000000 in
theorem refTakeU_any (r : RdS) (w : World) (hl : r.left.length ≤ 1099511627776) :
    Calls Try.prog 76 #[.agg #[.string (txt r.left), .int .i64 r.err]] w fun x w' =>
      x = .returned (.tuple #[.agg #[.string (txt r.U.2.left), .int .i64 r.U.2.err], .int .u64 (r.U.1 : Int)]) ∧ Upd [] w w' := by
  have HT1 := hd (fun W => refTake_any r 1 W hl (by omega))
  have HA := hd (U_err r)
  have HO := hd (take_one r)
  have HC := hd (U_small r)
  have HF := hd (U_ff r)
  have HM := hd (U_more r)
  have hdl := (take_le r 1).2
  generalize r.take 1 = T at *
  obtain ⟨s, d⟩ := T
  obtain ⟨dl, de⟩ := d
  obtain ⟨l, er⟩ := r
  simp only at HT1 HA HO HC HF HM hdl hl
  have e2 := two_new2 w #[.string (txt l), .int .i64 er] #[.string ⟨#[]⟩, .int .i64 0] 131 131
  generalize RdS.U ⟨l, er⟩ = U at *
  go_enter Try.func76, Try.ntmps76
  go_upto_region 1 with fail
  obtain ⟨W, hW, hu, hA, hB, hsz⟩ := e2
  rw [hW]
  clear hW
  have hac := hA.cell
  have HU := hd hu
  have HB := hd hB
  clear hu hB
  go_wp2_with fail
  refine (HT1.out W).mono ?_
  rintro x w1 ⟨rfl, hu1⟩
  have e3 : ∃ W2 k4, w1.heap.size = k4 ∧ w1.alloc (.cells #[.string (txt dl), .int .i64 de] 131) = W2 ∧ Upd [] w1 W2 ∧ Blk W2 k4 #[.string (txt dl), .int .i64 de] 131 := ⟨_, _, rfl, rfl, (Upd.refl _ _).alloc _, Blk.new _ _ _⟩
  have HU1 := hd (HU.out.trans hu1)
  have HR1 := hd (HB.out.upd hu1 (by simp))
  have hlt1 := HR1.out.lt
  clear hu1 hac hA hsz HU HB
  go_upto_region 2 with fail
  obtain ⟨W2, k4, hk4, hW2, hu2, hD⟩ := e3
  rw [hW2, hk4]
  rw [hk4] at hlt1
  clear hW2 hk4
  have HU2 := hd (HU1.out.trans hu2)
  have hR2 := HR1.out.upd hu2 (by simp)
  have HR2 := hd hR2
  have HD2 := hd hD
  have hdc := hD.cell
  have hrc := hR2.cell
  have hrz := hR2.frozen
  clear hu2 hR2 hD HU1 HR1
  by_cases hde : de = 0
  · obtain ⟨c, hcs⟩ := HO.out hde
    have HE0 := hd hde
    have hde' : (de != 0) = false := by simp [hde]
    have HCS := hd hcs
    subst hde hcs
    have hcz : 0 < (txt [c]).size := by simp
    have hci : (txt [c])[0]'hcz = c := rfl
    have hcl : (txt [c]).size = 1 := by simp
    have hc256 : c.toNat < 256 := c.toNat_lt
    by_cases h255 : c.toNat = 255
    · have b252 : ((c.toNat : Int) == 252) = false := by simp; omega
      have b253 : ((c.toNat : Int) == 253) = false := by simp; omega
      have b254 : ((c.toNat : Int) == 254) = false := by simp; omega
      have b255 : ((c.toNat : Int) == 255) = true := by simp; omega
      have HX := hd (HF.out (by rw [show c = 255 from UInt8.toNat_inj.1 h255]) rfl)
      clear h255
      go_wp2_with fail
      refine (refFail_any ⟨dl, 0⟩ 4 _).mono ?_
      rintro x w3 ⟨rfl, hu3⟩
      have hR3 := HR2.out.upd hu3 (by simp)
      have HU3 := hd (HU2.out.trans hu3)
      clear hrc hrz hu3
      have hrc := hR3.cell
      have hrz := hR3.frozen
      generalize RdS.fail ⟨dl, 0⟩ 4 = q at *
      obtain ⟨ql, qe⟩ := q
      obtain ⟨W8, e8, u8, b8⟩ := set2 hR3 (.string (txt ql)) (.int .i64 qe)
      have HE := hd e8
      have HUF := hd (HU3.out.trans' u8 (by intro i hi; simp at hi; omega))
      have HB8 := hd b8
      clear e8 u8 b8
      go_wp2_with fail
      rw [HE.out]
      have hbc := HB8.out.cell
      refine bodyPost_ret (v := .tuple #[.agg #[.string (txt ql), .int .i64 qe], .int .u64 0]) (by simp [results, Try.results76, go_sem, hbc]) rfl ?_
      rw [HX.out]
      exact ⟨rfl, HUF.out⟩
    · have b255 : ((c.toNat : Int) == 255) = false := by simp; omega
      by_cases h252 : c.toNat < 252
      · have b252 : ((c.toNat : Int) == 252) = false := by simp; omega
        have b253 : ((c.toNat : Int) == 253) = false := by simp; omega
        have b254 : ((c.toNat : Int) == 254) = false := by simp; omega
        have HX := hd (HC.out c rfl h252)
        have HT2 := hd (fun W => refTake_any ⟨dl, 0⟩ 0 W (by simp only; omega) (by omega))
        rw [take_zero] at HT2
        simp only at HT2
        clear h252 h255
        go_wp2_with fail
        refine (HT2.out _).mono ?_
        rintro x w3 ⟨rfl, hu3⟩
        have e4 : ∃ W4 k7, w3.heap.size = k7 ∧ w3.alloc (.cells #[.string (txt dl), .int .i64 0] 131) = W4 ∧ Upd [] w3 W4 ∧ Blk W4 k7 #[.string (txt dl), .int .i64 0] 131 := ⟨_, _, rfl, rfl, (Upd.refl _ _).alloc _, Blk.new _ _ _⟩
        have HU3 := hd (HU2.out.trans hu3)
        have HR3 := hd (HR2.out.upd hu3 (by simp))
        clear hrc hrz hdc hu3
        go_upto_region 15 with fail
        obtain ⟨W4, k7, hk7, hW4, hu4, hE⟩ := e4
        rw [hW4, hk7]
        clear hW4 hk7
        have HU4 := hd (HU3.out.trans hu4)
        have hR4 := HR3.out.upd hu4 (by simp)
        have hec := hE.cell
        have hrc := hR4.cell
        have hrz := hR4.frozen
        have hwc : IntKind.u64.wrap (c.toNat : Int) = c.toNat := by rw [IntKind.wrap_u64]; omega
        obtain ⟨W8, e8, u8, b8⟩ := set2 hR4 (.string (txt dl)) (.int .i64 0)
        have HE := hd e8
        have HUF := hd (HU4.out.trans' u8 (by intro i hi; simp at hi; omega))
        have HB8 := hd b8
        clear e8 u8 b8 hu4 hR4 hE
        go_upto_region 18 with fail
        go_region_with fail
        all_goals
          go_wp2_with fail
          first
          | (rw [HE.out]
             have hbc := HB8.out.cell
             refine bodyPost_ret (v := .tuple #[.agg #[.string (txt dl), .int .i64 0], .int .u64 (c.toNat : Int)]) (by simp [results, Try.results76, go_sem, hbc]) rfl ?_
             rw [HX.out]
             exact ⟨rfl, HUF.out⟩)
          | (rw [HE.out]
             have hbc := HB8.out.drew.cell
             refine bodyPost_ret (v := .tuple #[.agg #[.string (txt dl), .int .i64 0], .int .u64 (c.toNat : Int)]) (by simp [results, Try.results76, go_sem, hbc]) rfl ?_
             rw [HX.out]
             exact ⟨rfl, HUF.out.drew⟩)
      · have hmo : moreOf c ≤ 8 ∧ 1 ≤ moreOf c := by unfold moreOf; (repeat' split) <;> omega
        have hm3 : (c.toNat = 252 ∧ moreOf c = 2) ∨ (c.toNat = 253 ∧ moreOf c = 4) ∨ (c.toNat = 254 ∧ moreOf c = 8) := by
          rcases (by omega : c.toNat = 252 ∨ c.toNat = 253 ∨ c.toNat = 254) with h | h | h
          · exact .inl ⟨h, by rw [show c = 252 from UInt8.toNat_inj.1 h]; decide⟩
          · exact .inr (.inl ⟨h, by rw [show c = 253 from UInt8.toNat_inj.1 h]; decide⟩)
          · exact .inr (.inr ⟨h, by rw [show c = 254 from UInt8.toNat_inj.1 h]; decide⟩)
        have HX := hd (HM.out c rfl (by omega) (fun h => h255 (by rw [h]; rfl)))
        have HT2 := hd (fun W => refTake_any ⟨dl, 0⟩ (moreOf c) W (by simp only; omega) (by omega))
        generalize moreOf c = m at *
        generalize RdS.take ⟨dl, 0⟩ m = T2 at *
        obtain ⟨t, e⟩ := T2
        obtain ⟨el, ee⟩ := e
        simp only at HX HT2
        go_upto_block 0 with fail
        go_cut [6] (fun s6 wx => s6 = .int .i64 (m : Int) ∧ wx = W2)
        case first =>
          rcases hm3 with ⟨h, hm⟩ | ⟨h, hm⟩ | ⟨h, hm⟩
          · have b252 : ((c.toNat : Int) == 252) = true := by simp; omega
            have HMM := hd hm
            clear h255 h252 h hm hmo
            go_wp2_with fail
            go_meet
            case rel => exact ⟨by rw [HMM.out]; rfl, rfl⟩
          · have b252 : ((c.toNat : Int) == 252) = false := by simp; omega
            have b253 : ((c.toNat : Int) == 253) = true := by simp; omega
            have HMM := hd hm
            clear h255 h252 h hm hmo
            go_wp2_with fail
            go_meet
            case rel => exact ⟨by rw [HMM.out]; rfl, rfl⟩
          · have b252 : ((c.toNat : Int) == 252) = false := by simp; omega
            have b253 : ((c.toNat : Int) == 253) = false := by simp; omega
            have b254 : ((c.toNat : Int) == 254) = true := by simp; omega
            have HMM := hd hm
            clear h255 h252 h hm hmo
            go_wp2_with fail
            go_meet
            case rel => exact ⟨by rw [HMM.out]; rfl, rfl⟩
        case rest =>
          obtain ⟨rfl, rfl⟩ := hcut
          clear h255 h252 hm3 b255
          go_wp2_with fail
          refine (HT2.out _).mono ?_
          rintro x w3 ⟨rfl, hu3⟩
          have e4 : ∃ W4 k7, w3.heap.size = k7 ∧ w3.alloc (.cells #[.string (txt el), .int .i64 ee] 131) = W4 ∧ Upd [] w3 W4 ∧ Blk W4 k7 #[.string (txt el), .int .i64 ee] 131 := ⟨_, _, rfl, rfl, (Upd.refl _ _).alloc _, Blk.new _ _ _⟩
          have HU3 := hd (HU2.out.trans hu3)
          have HR3 := hd (HR2.out.upd hu3 (by simp))
          clear hrc hrz hdc hu3
          go_upto_region 15 with fail
          obtain ⟨W4, k7, hk7, hW4, hu4, hE⟩ := e4
          rw [hW4, hk7]
          clear hW4 hk7
          have HU4 := hd (HU3.out.trans hu4)
          have hR4 := HR3.out.upd hu4 (by simp)
          have HR4 := hd hR4
          have HE4 := hd hE
          have hec := hE.cell
          have hrc := hR4.cell
          have hrz := hR4.frozen
          by_cases hee : ee = 0
          · obtain ⟨hXl, hXU⟩ := HX.out.2 hee
            have hee' : (ee != 0) = false := by simp [hee]
            subst hee
            have hm0 : ((m : Int) == 0) = false := by simp; omega
            have HXU := hd hXU
            clear hXU hu4 hR4 hE
            go_wp2_with fail
            go_loop [9, 10] (fun v i => ∃ j : Nat, j ≤ m ∧ i = .int .i64 j ∧ v = .int .u64 ((numOf (t.take j) : Nat) : Int)) (fun _ i => m - (intOf i).toNat)
            case atStart => exact ⟨0, Nat.zero_le _, rfl, rfl⟩
            case round =>
              obtain ⟨j, hj, rfl, rfl⟩ := hrel
              by_cases hjm : j < m
              · have hjm' : (j : Int) < (m : Int) := by omega
                have hjl : j < t.length := by omega
                have hsz : j < (txt t).size := by simpa using hjl
                have hat := txt_at t j hjl hsz
                have hb := t[j].toNat_lt
                have hlt := numOf_lt (t.take j)
                have hlt7 : numOf (t.take j) < 72057594037927936 := Nat.lt_of_lt_of_le hlt (Nat.le_trans (Nat.pow_le_pow_right (by omega) (show _ ≤ 7 by rw [List.length_take]; omega)) (by decide))
                have HN := hd (show numOf (t.take (j + 1)) = numOf (t.take j) * 256 + t[j].toNat by rw [List.take_succ_eq_append_getElem hjl]; exact numOf_snoc _ _)
                clear hlt
                generalize numOf (t.take j) = v at *
                generalize hb0 : t[j].toNat = b at *
                have hwb : IntKind.u64.wrap (b : Int) = b := by rw [IntKind.wrap_u64]; omega
                have hws : IntKind.u64.wrap (256 * (v : Int) + (b : Int)) = ((v * 256 + b : Nat) : Int) := by rw [IntKind.wrap_u64]; omega
                go_wp2_with fail
                go_round
                case rel => exact ⟨j + 1, by omega, by go_num, by rw [HN.out]; exact congrArg _ (by omega)⟩
                case measure => simp [intOf]; omega
              · obtain rfl : j = m := by omega
                have htt : t.take j = t := List.take_of_length_le (by omega)
                rw [htt]
                have hnl : numOf t < 18446744073709551616 := Nat.lt_of_lt_of_le (numOf_lt t) (Nat.le_trans (Nat.pow_le_pow_right (by omega) (show _ ≤ 8 by omega)) (by decide))
                have HUA := hd (fun W => refU_any (numOf t) W hnl)
                have hs1 := add_txt' [c] t (by simp; omega)
                simp only [List.cons_append, List.nil_append] at hs1
                clear htt hnl
                go_wp2_with fail
                refine (HUA.out _).mono ?_
                rintro x w5 ⟨rfl, hu5⟩
                have hR5 := HR4.out.upd hu5 (by simp)
                have hE5 := HE4.out.upd hu5 (by simp)
                have HU5 := hd (HU4.out.trans hu5)
                clear hrc hrz hec hu5
                have hrc := hR5.cell
                have hrz := hR5.frozen
                have hec := hE5.cell
                by_cases hq : uBytes (numOf t) = c :: t
                · have HX5 := hd (HXU.out.trans (if_pos hq))
                  have hqb : ((txt (uBytes (numOf t))).toList == (txt (c :: t)).toList) = true := by rw [hq]; simp
                  clear hq
                  generalize numOf t = v at *
                  obtain ⟨W8, e8, u8, b8⟩ := set2 hR5 (.string (txt el)) (.int .i64 0)
                  have HE := hd e8
                  have HUF := hd (HU5.out.trans' u8 (by intro i hi; simp at hi; omega))
                  have HB8 := hd b8
                  clear e8 u8 b8
                  go_wp2_with fail
                  rw [HE.out]
                  have hbc := HB8.out.cell
                  refine bodyPost_ret (v := .tuple #[.agg #[.string (txt el), .int .i64 0], .int .u64 (v : Int)]) (by simp [results, Try.results76, go_sem, hbc]) rfl ?_
                  rw [HX5.out]
                  exact ⟨rfl, HUF.out⟩
                · have HX5 := hd (HXU.out.trans (if_neg hq))
                  have hqb : ((txt (uBytes (numOf t))).toList == (txt (c :: t)).toList) = false := by rw [txt_list, txt_list]; simpa using hq
                  clear hq
                  generalize numOf t = v at *
                  go_wp2_with fail
                  refine (refFail_any ⟨el, 0⟩ 4 _).mono ?_
                  rintro x w6 ⟨rfl, hu6⟩
                  generalize RdS.fail ⟨el, 0⟩ 4 = q at *
                  obtain ⟨ql, qe⟩ := q
                  have hR6 := hR5.upd hu6 (by simp)
                  clear hrc hrz
                  have hrc := hR6.cell
                  have hrz := hR6.frozen
                  obtain ⟨W8, e8, u8, b8⟩ := set2 hR6 (.string (txt ql)) (.int .i64 qe)
                  have HE := hd e8
                  have HUF := hd ((HU5.out.trans hu6).trans' u8 (by intro i hi; simp at hi; omega))
                  have HB8 := hd b8
                  clear e8 u8 b8
                  go_wp2_with fail
                  rw [HE.out]
                  have hbc := HB8.out.cell
                  refine bodyPost_ret (v := .tuple #[.agg #[.string (txt ql), .int .i64 qe], .int .u64 0]) (by simp [results, Try.results76, go_sem, hbc]) rfl ?_
                  rw [HX5.out]
                  exact ⟨rfl, HUF.out⟩
          · have HXU := hd (HX.out.1 hee)
            have hee' : (ee != 0) = true := by simpa using hee
            clear hee
            obtain ⟨W8, e8, u8, b8⟩ := set2 hR4 (.string (txt el)) (.int .i64 ee)
            have HE := hd e8
            have HUF := hd (HU4.out.trans' u8 (by intro i hi; simp at hi; omega))
            have HB8 := hd b8
            clear e8 u8 b8 hu4 hR4 hE
            go_wp2_with fail
            rw [HE.out]
            have hbc := HB8.out.cell
            refine bodyPost_ret (v := .tuple #[.agg #[.string (txt el), .int .i64 ee], .int .u64 0]) (by simp [results, Try.results76, go_sem, hbc]) rfl ?_
            rw [HXU.out]
            exact ⟨rfl, HUF.out⟩
  · have hde' : (de != 0) = true := by simpa using hde
    have HX := hd (HA.out hde)
    clear hde
    obtain ⟨W8, e8, u8, b8⟩ := set2 HR2.out (.string (txt dl)) (.int .i64 de)
    have HE := hd e8
    have HUF := hd (HU2.out.trans' u8 (by intro i hi; simp at hi; omega))
    have HB8 := hd b8
    clear e8 u8 b8
    go_wp2_with fail
    rw [HE.out]
    have hbc := HB8.out.cell
    refine bodyPost_ret (v := .tuple #[.agg #[.string (txt dl), .int .i64 de], .int .u64 0]) (by simp [results, Try.results76, go_sem, hbc]) rfl ?_
    rw [HX.out]
    exact ⟨rfl, HUF.out⟩
end Go.Proofs.Ytjaoiaknglnomaa

/-
  chatelaineref01.TakeN, TakeS, walked: they answer as code.Reader's N, S. Condition: texts of sizes that there are.
-/
set_option linter.unusedVariables false
set_option linter.unusedSimpArgs false
set_option maxRecDepth 100000
namespace Go.Proofs.Ytjaoiaknglnomaa
open Go.RowKit

theorem U_zero (r : RdS) (h : r.U.2.err ≠ 0) : r.U.1 = 0 := by
  by_cases h1 : (r.take 1).2.err = 0
  · obtain ⟨c, hc⟩ := take_one r h1
    by_cases hs : c.toNat < 252
    · rw [U_small r c hc hs] at h; exact absurd h1 h
    · by_cases h5 : c = 255
      · subst h5; rw [U_ff r hc h1]
      · obtain ⟨q1, q2⟩ := U_more r c hc (by omega) h5
        by_cases h2 : ((r.take 1).2.take (moreOf c)).2.err = 0
        · obtain ⟨_, q⟩ := q2 h2
          rw [q] at h ⊢
          split
          · rename_i hh
            rw [if_pos hh] at h
            exact absurd h2 h
          · rfl
        · rw [q1 h2]
  · rw [U_err r h1]
theorem N_nat (r : RdS) (most : Int) : (r.N most).1 = (((r.N most).1.toNat : Nat) : Int) := by
  unfold RdS.N
  split
  · rfl
  · simp
theorem N_le (r : RdS) (most : Int) (h : 0 ≤ most) : (r.N most).1 ≤ most := by
  unfold RdS.N
  split
  · exact h
  · simp only; omega

set_option maxHeartbeats 4000000 in
theorem refTakeN_any (r : RdS) (most : Int) (w : World) (hl : r.left.length ≤ 1099511627776) (hm0 : 0 ≤ most) (hm : most ≤ 1099511627776) :
    Calls Try.prog 98 #[.agg #[.string (txt r.left), .int .i64 r.err], .int .i64 most] w fun x w' =>
      x = .returned (.tuple #[.agg #[.string (txt (r.N most).2.left), .int .i64 (r.N most).2.err], .int .i64 (r.N most).1]) ∧ Upd [] w w' := by
  have HTU := hd (fun W => refTakeU_any r W hl)
  have HN := hd (show r.N most = if most < (r.U.1 : Int) then (0, r.U.2.fail 6) else ((r.U.1 : Int), r.U.2) from rfl)
  have HZ := hd (U_zero r)
  have hvl := U_lt r
  generalize RdS.N r most = R at *
  generalize RdS.U r = U at *
  obtain ⟨v, d⟩ := U
  obtain ⟨dl, de⟩ := d
  obtain ⟨l, er⟩ := r
  simp only at HTU HN HZ hvl hl
  have e2 := two_new2 w #[.string (txt l), .int .i64 er] #[.string ⟨#[]⟩, .int .i64 0] 131 131
  have hwm : IntKind.u64.wrap most = most := by rw [IntKind.wrap_u64]; omega
  go_enter Try.func98, Try.ntmps98
  go_upto_region 1 with fail
  obtain ⟨W, hW, hu, hA, hB, hsz⟩ := e2
  rw [hW]
  clear hW
  have hac := hA.cell
  have HU := hd hu
  have HB := hd hB
  clear hu hB
  go_wp2_with fail
  refine (HTU.out W).mono ?_
  rintro x w1 ⟨rfl, hu1⟩
  have e3 : ∃ W2 k4, w1.heap.size = k4 ∧ w1.alloc (.cells #[.string (txt dl), .int .i64 de] 131) = W2 ∧ Upd [] w1 W2 ∧ Blk W2 k4 #[.string (txt dl), .int .i64 de] 131 := ⟨_, _, rfl, rfl, (Upd.refl _ _).alloc _, Blk.new _ _ _⟩
  have HU1 := hd (HU.out.trans hu1)
  have HR1 := hd (HB.out.upd hu1 (by simp))
  have hlt1 := HR1.out.lt
  clear hu1 hac hA hsz HU HB
  go_upto_region 2 with fail
  obtain ⟨W2, k4, hk4, hW2, hu2, hD⟩ := e3
  rw [hW2, hk4]
  rw [hk4] at hlt1
  clear hW2 hk4
  have HU2 := hd (HU1.out.trans hu2)
  have hR2 := HR1.out.upd hu2 (by simp)
  have HR2 := hd hR2
  have HD2 := hd hD
  have hdc := hD.cell
  have hdz := hD.frozen
  have hrc := hR2.cell
  have hrz := hR2.frozen
  clear hu2 hR2 hD HU1 HR1
  by_cases hde : de = 0
  · have hde' : (de == 0) = true := by simp [hde]
    have hde'' : (de != 0) = false := by simp [hde]
    have HDE := hd hde
    by_cases hg : most < (v : Int)
    · have HX := hd (HN.out.trans (if_pos hg))
      have HXF := hd (show RdS.fail ⟨dl, de⟩ 6 = ⟨dl, 6⟩ by unfold RdS.fail; rw [if_pos hde])
      clear hde
      have e5 : ∃ W3, W2.setCell ⟨k4, 1, none⟩ (.int .i64 6) = W3 ∧ Upd [k4] W2 W3 ∧ Blk W3 k4 #[.string (txt dl), .int .i64 6] 131 := ⟨_, rfl, (Upd.refl _ _).setCell (by simp) _, HD2.out.set 1 _⟩
      go_upto_region 6 with fail
      obtain ⟨W3, hW3, hu3, hD3⟩ := e5
      rw [hW3]
      clear hW3 hdc hdz hrc hrz
      have hU3 := HU2.out.trans' hu3 (by intro i hi; simp at hi; omega)
      have hR3 := HR2.out.upd hu3 (by simp; omega)
      have hdc := hD3.cell
      have hrc := hR3.cell
      have hrz := hR3.frozen
      obtain ⟨W8, e8, u8, b8⟩ := set2 hR3 (.string (txt dl)) (.int .i64 6)
      have HE := hd e8
      have HUF := hd (hU3.trans' u8 (by intro i hi; simp at hi; omega))
      have HB8 := hd b8
      clear e8 u8 b8 hU3 hR3 hD3 hu3
      go_wp2_with fail
      rw [HE.out]
      have hbc := HB8.out.cell
      refine bodyPost_ret (v := .tuple #[.agg #[.string (txt dl), .int .i64 6], .int .i64 0]) (by simp [results, Try.results98, go_sem, hbc]) rfl ?_
      rw [HX.out, HXF.out]
      exact ⟨rfl, HUF.out⟩
    · have HX := hd (HN.out.trans (if_neg hg))
      have hwv : IntKind.i64.wrap (v : Int) = v := by rw [IntKind.wrap_i64]; omega
      have hvl : (v : Int) ≤ 1099511627776 := by omega
      clear hde
      obtain ⟨W8, e8, u8, b8⟩ := set2 HR2.out (.string (txt dl)) (.int .i64 de)
      have HE := hd e8
      have HUF := hd (HU2.out.trans' u8 (by intro i hi; simp at hi; omega))
      have HB8 := hd b8
      clear e8 u8 b8
      go_wp2_with fail
      rw [HE.out]
      have hbc := HB8.out.cell
      refine bodyPost_ret (v := .tuple #[.agg #[.string (txt dl), .int .i64 de], .int .i64 (v : Int)]) (by simp [results, Try.results98, go_sem, hbc]) rfl ?_
      rw [HX.out]
      exact ⟨rfl, HUF.out⟩
  · have hde' : (de == 0) = false := by simpa using hde
    have hde'' : (de != 0) = true := by simpa using hde
    have hv0 := HZ.out hde
    have HX := hd (show R = (0, ⟨dl, de⟩) by rw [HN.out, if_neg (by omega), hv0]; rfl)
    clear hde hv0
    obtain ⟨W8, e8, u8, b8⟩ := set2 HR2.out (.string (txt dl)) (.int .i64 de)
    have HE := hd e8
    have HUF := hd (HU2.out.trans' u8 (by intro i hi; simp at hi; omega))
    have HB8 := hd b8
    clear e8 u8 b8
    go_wp2_with fail
    rw [HE.out]
    have hbc := HB8.out.cell
    refine bodyPost_ret (v := .tuple #[.agg #[.string (txt dl), .int .i64 de], .int .i64 0]) (by simp [results, Try.results98, go_sem, hbc]) rfl ?_
    rw [HX.out]
    exact ⟨rfl, HUF.out⟩

set_option maxHeartbeats 4000000 in
theorem refTakeS_any (r : RdS) (most : Int) (w : World) (hl : r.left.length ≤ 1099511627776) (hm0 : 0 ≤ most) (hm : most ≤ 1099511627776) :
    Calls Try.prog 77 #[.agg #[.string (txt r.left), .int .i64 r.err], .int .i64 most] w fun x w' =>
      x = .returned (.tuple #[.agg #[.string (txt (r.S most).2.left), .int .i64 (r.S most).2.err], .string (txt (r.S most).1)]) ∧ Upd [] w w' := by
  have HTN := hd (fun W => refTakeN_any r most W hl hm0 hm)
  have hnn := N_nat r most
  have hnm := N_le r most hm0
  have hnl : (r.N most).2.left.length ≤ r.left.length := by
    have := U_left r
    unfold RdS.N
    split
    · simp only; rw [fail_left]; exact this
    · exact this
  have HS := hd (show r.S most = (r.N most).2.take (r.N most).1.toNat from rfl)
  generalize RdS.S r most = R at *
  generalize RdS.N r most = N at *
  obtain ⟨n, d⟩ := N
  obtain ⟨l, er⟩ := r
  simp only at HTN HS hnn hnm hnl hl
  obtain ⟨n, rfl⟩ : ∃ k : Nat, n = k := ⟨n.toNat, hnn⟩
  clear hnn
  have HT := hd (fun W => refTake_any d n W (by omega) (by omega))
  rw [Int.toNat_natCast] at HS
  rw [← HS.out] at HT
  obtain ⟨dl, de⟩ := d
  obtain ⟨s, q⟩ := R
  obtain ⟨ql, qe⟩ := q
  simp only at HTN HT
  have e2 := two_new2 w #[.string (txt l), .int .i64 er] #[.string ⟨#[]⟩, .int .i64 0] 131 131
  go_enter Try.func77, Try.ntmps77
  go_upto_region 1 with fail
  obtain ⟨W, hW, hu, hA, hB, hsz⟩ := e2
  rw [hW]
  clear hW
  have hac := hA.cell
  have HU := hd hu
  have HB := hd hB
  clear hu hB
  go_wp2_with fail
  refine (HTN.out W).mono ?_
  rintro x w1 ⟨rfl, hu1⟩
  have e3 : ∃ W2 k4, w1.heap.size = k4 ∧ w1.alloc (.cells #[.string (txt dl), .int .i64 de] 131) = W2 ∧ Upd [] w1 W2 ∧ Blk W2 k4 #[.string (txt dl), .int .i64 de] 131 := ⟨_, _, rfl, rfl, (Upd.refl _ _).alloc _, Blk.new _ _ _⟩
  have HU1 := hd (HU.out.trans hu1)
  have HR1 := hd (HB.out.upd hu1 (by simp))
  have hlt1 := HR1.out.lt
  clear hu1 hac hA hsz HU HB
  go_upto_region 2 with fail
  obtain ⟨W2, k4, hk4, hW2, hu2, hD⟩ := e3
  rw [hW2, hk4]
  rw [hk4] at hlt1
  clear hW2 hk4
  have HU2 := hd (HU1.out.trans hu2)
  have HR2 := hd (HR1.out.upd hu2 (by simp))
  have hdc := hD.cell
  clear hu2 hD HU1 HR1
  go_wp2_with fail
  refine (HT.out W2).mono ?_
  rintro x w3 ⟨rfl, hu3⟩
  have hR3 := HR2.out.upd hu3 (by simp)
  have HU3 := hd (HU2.out.trans hu3)
  have hrc := hR3.cell
  have hrz := hR3.frozen
  obtain ⟨W8, e8, u8, b8⟩ := set2 hR3 (.string (txt ql)) (.int .i64 qe)
  have HE := hd e8
  have HUF := hd (HU3.out.trans' u8 (by intro i hi; simp at hi; omega))
  have HB8 := hd b8
  clear e8 u8 b8 hR3 hu3 hdc
  go_wp2_with fail
  rw [HE.out]
  have hbc := HB8.out.cell
  refine bodyPost_ret (v := .tuple #[.agg #[.string (txt ql), .int .i64 qe], .string (txt s)]) (by simp [results, Try.results77, go_sem, hbc]) rfl ?_
  exact ⟨rfl, HUF.out⟩
end Go.Proofs.Ytjaoiaknglnomaa
