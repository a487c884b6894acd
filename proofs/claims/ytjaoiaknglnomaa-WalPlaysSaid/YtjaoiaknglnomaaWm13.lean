/-
  What is read is written as just those bytes (plain); chatelaineref12.Parse and Open, walked: they answer as twin's. Condition: texts of sizes that there are.
-/
import Derived.Test.YtjaoiaknglnomaaWm12
set_option linter.unusedVariables false
set_option linter.unusedSimpArgs false
set_option maxRecDepth 100000
namespace Go.Proofs.Ytjaoiaknglnomaa
open Go.RowKit

theorem take_inv (r : RdS) (n : Nat) (h : (r.take n).2.err = 0) : r.err = 0 ∧ r.left = (r.take n).1 ++ (r.take n).2.left := by
  unfold RdS.take at *
  by_cases h0 : r.err = 0
  · rw [if_pos h0] at h ⊢
    by_cases h1 : r.left.length < n
    · rw [if_pos h1] at h; exact absurd h (show ¬ ((3 : Int) = 0) by decide)
    · rw [if_neg h1]; exact ⟨h0, (List.take_append_drop n r.left).symm⟩
  · rw [if_neg h0] at h; exact absurd h h0
theorem U_inv (r : RdS) (h : r.U.2.err = 0) : r.err = 0 ∧ r.left = uBytes r.U.1 ++ r.U.2.left := by
  by_cases h1 : (r.take 1).2.err = 0
  · obtain ⟨c, hc⟩ := take_one r h1
    obtain ⟨q0, q1⟩ := take_inv r 1 h1
    refine ⟨q0, ?_⟩
    rw [hc] at q1
    by_cases hs : c.toNat < 252
    · rw [U_small r c hc hs, q1]
      have : uBytes c.toNat = [c] := by
        unfold uBytes headOf
        rw [if_pos hs]
        simp [wideOf]
      rw [this]
    · by_cases h5 : c = 255
      · subst h5
        rw [U_ff r hc h1, fail_ok _ 4 h1] at h
        exact absurd h (show ¬ ((4 : Int) = 0) by decide)
      · obtain ⟨p1, p2⟩ := U_more r c hc (by omega) h5
        by_cases h2 : ((r.take 1).2.take (moreOf c)).2.err = 0
        · obtain ⟨_, q⟩ := p2 h2
          obtain ⟨_, q3⟩ := take_inv (r.take 1).2 (moreOf c) h2
          rw [q] at h ⊢
          split
          · rename_i hh
            rw [hh, q1, q3]
            simp
          · rename_i hh
            rw [if_neg hh, fail_ok _ 4 h2] at h
            exact absurd h (show ¬ ((4 : Int) = 0) by decide)
        · rw [p1 h2] at h; exact absurd h h2
  · rw [U_err r h1] at h; exact absurd h h1
theorem N_inv (r : RdS) (most : Int) (h : (r.N most).2.err = 0) : r.err = 0 ∧ r.left = nBytes (r.N most).1 ++ (r.N most).2.left := by
  unfold RdS.N at *
  by_cases hm : most < (r.U.1 : Int)
  · rw [if_pos hm] at h
    by_cases h1 : r.U.2.err = 0
    · rw [fail_ok _ 6 h1] at h
      exact absurd h (show ¬ ((6 : Int) = 0) by decide)
    · rw [fail_err _ 6 h1] at h; exact absurd h h1
  · rw [if_neg hm] at h ⊢
    exact U_inv r h
theorem S_inv (r : RdS) (most : Int) (h : (r.S most).2.err = 0) : r.err = 0 ∧ r.left = nBytes (r.S most).1.length ++ ((r.S most).1 ++ (r.S most).2.left) := by
  unfold RdS.S at *
  obtain ⟨q0, q1⟩ := take_inv _ _ h
  obtain ⟨q2, q3⟩ := N_inv r most q0
  refine ⟨q2, ?_⟩
  rw [take_len _ _ h, ← N_nat]
  rw [q3]
  congr 1
theorem done_inv (r : RdS) (h : r.done.err = 0) : r.err = 0 ∧ r.left = [] := by
  unfold RdS.done at h
  by_cases h0 : r.left = []
  · rw [if_pos h0] at h; exact ⟨h, h0⟩
  · rw [if_neg h0] at h
    by_cases h1 : r.err = 0
    · rw [fail_ok _ 4 h1] at h
      exact absurd h (show ¬ ((4 : Int) = 0) by decide)
    · rw [fail_err _ 4 h1] at h; exact absurd h h1
/-- Is a file good, it is just what is spelled so. -/
theorem parse_inv (s : List UInt8) (h : (parseL s).version ≠ 0) : s = spellL (parseL s).version (parseL s).text ∧ (parseL s).bad = false := by
  unfold parseL at *
  by_cases h0 : s = []
  · rw [if_pos h0] at h; exact absurd rfl h
  · rw [if_neg h0] at h ⊢
    dsimp only at h ⊢
    split
    · rename_i hc
      obtain ⟨h1, h2, h3, h4, _⟩ := hc
      obtain ⟨_, q2, r, q3⟩ := openL_inv s 1 (openL s).2.1 (by rw [← h1, ← h2])
      have hl := congrArg List.length q3
      rw [List.length_append, frame_len] at hl
      have hr : r = [] := List.eq_nil_of_length_eq_zero (by omega)
      rw [hr, List.append_nil] at q3
      obtain ⟨d1, d2⟩ := done_inv _ h4
      obtain ⟨s1, s2⟩ := S_inv _ _ d1
      obtain ⟨_, u2⟩ := U_inv _ s1
      rw [d2, List.append_nil] at s2
      rw [s2] at u2
      simp only at u2
      refine ⟨?_, rfl⟩
      unfold spellL
      rw [← u2]
      exact q3
    · rename_i hc
      rw [if_neg hc] at h
      exact absurd rfl h
theorem parse_zero (s : List UInt8) : (parseL s).version = 0 ↔ ((parseL s).bad = true ∨ s = []) := by
  unfold parseL
  by_cases h0 : s = []
  · rw [if_pos h0]; simp [h0]
  · rw [if_neg h0]
    dsimp only
    split
    · rename_i hc
      simp [h0, hc.2.2.2.2]
    · simp

set_option maxHeartbeats 8000000 in
theorem refParse_any (s : List UInt8) (w : World) (hs : s.length ≤ 1099511627776) :
    Calls Try.prog 61 #[.string (txt s)] w fun x w' => x = .returned (.agg #[.int .u64 ((parseL s).version : Int), .string (txt (parseL s).text), .bool (parseL s).bad]) ∧ Upd [] w w' := by
  have e1 : ∃ W, w.alloc (.cells #[.int .u64 0, .string ⟨#[]⟩, .bool false] 110) = W ∧ Upd [] w W ∧ Blk W w.heap.size #[.int .u64 0, .string ⟨#[]⟩, .bool false] 110 := ⟨_, rfl, (Upd.refl _ _).alloc _, Blk.new _ _ _⟩
  have HPL := hd (show parseL s = if s = [] then ⟨0, [], false⟩ else if (openL s).2.2 = 0 ∧ (openL s).1 = 1 ∧ (openL s).2.1.length + 8 = s.length ∧ ((RdS.U ⟨(openL s).2.1, 0⟩).2.S 524288).2.done.err = 0 ∧ (RdS.U ⟨(openL s).2.1, 0⟩).1 ≠ 0 then ⟨(RdS.U ⟨(openL s).2.1, 0⟩).1, ((RdS.U ⟨(openL s).2.1, 0⟩).2.S 524288).1, false⟩ else ⟨0, [], true⟩ from rfl)
  generalize parseL s = PS at *
  obtain ⟨pv, pt, pb⟩ := PS
  by_cases h0 : s = []
  · have ht : (txt s).toList = [] := by rw [txt_list]; exact h0
    have HX := hd (HPL.out.trans (if_pos h0))
    injection HX.out with x1 x2 x3
    subst x1 x2 x3
    clear h0
    go_enter Try.func61, Try.ntmps61
    go_upto_region 1 with fail
    obtain ⟨W, hW, hu, hB⟩ := e1
    rw [hW]
    clear hW
    have hbq := hB.cell
    have hbz := hB.frozen
    obtain ⟨W8, e8, u8, b8⟩ := set3 hB (.int .u64 0) (.string ⟨#[]⟩) (.bool false)
    have HE := hd e8
    have HU := hd (hu.trans' u8 (by intro i hi; simp at hi; omega))
    have HB := hd b8
    clear e8 u8 b8 hu hB
    go_wp2_with fail
    rw [HE.out]
    have hbc := HB.out.cell
    refine bodyPost_ret (v := .agg #[.int .u64 0, .string ⟨#[]⟩, .bool false]) (by simp [results, Try.results61, go_sem, hbc]) rfl ?_
    exact ⟨rfl, HU.out⟩
  · have ht : ¬ (txt s).toList = [] := by rw [txt_list]; exact h0
    have hte : (txt s).toList.isEmpty = false := by simpa using ht
    have hol := openL_len s
    have HOP := hd (fun W => refOpen_any s W hs)
    have HX := hd (HPL.out.trans (if_neg h0))
    have HTU := hd (fun W => refTakeU_any ⟨(openL s).2.1, 0⟩ W (by simp only; omega))
    have hul := U_left ⟨(openL s).2.1, 0⟩
    simp only at hul
    have HTS := hd (fun W => refTakeS_any (RdS.U ⟨(openL s).2.1, 0⟩).2 524288 W (by omega) (by omega) (by omega))
    have HTD := hd (fun W => refDone_any ((RdS.U ⟨(openL s).2.1, 0⟩).2.S 524288).2 W)
    have hult := U_lt ⟨(openL s).2.1, 0⟩
    clear h0 hul HPL
    generalize ((RdS.U ⟨(openL s).2.1, 0⟩).2.S 524288).2.done = DN at *
    generalize (RdS.U ⟨(openL s).2.1, 0⟩).2.S 524288 = T at *
    obtain ⟨tt, r3⟩ := T
    generalize RdS.U ⟨(openL s).2.1, 0⟩ = U at *
    obtain ⟨uv, r2⟩ := U
    generalize openL s = O at *
    obtain ⟨kd, inn, er⟩ := O
    obtain ⟨dl, de⟩ := DN
    obtain ⟨l3, e3⟩ := r3
    obtain ⟨l2, er2⟩ := r2
    simp only at HOP HX HTU HTS HTD hol hult
    have hk256 : kd.toNat < 256 := kd.toNat_lt
    go_enter Try.func61, Try.ntmps61
    go_upto_region 1 with fail
    obtain ⟨W, hW, hu, hB⟩ := e1
    rw [hW]
    clear hW
    have HU := hd hu
    have HB := hd hB
    have hkl := hB.lt
    clear hu hB
    go_wp2_with fail
    refine (HOP.out W).mono ?_
    rintro x w1 ⟨rfl, hu1⟩
    have e3 : ∃ W2 k3, w1.heap.size = k3 ∧ w1.alloc (.cells #[.int .u8 (kd.toNat : Int), .string (txt inn)] 127) = W2 ∧ Upd [] w1 W2 ∧ Blk W2 k3 #[.int .u8 (kd.toNat : Int), .string (txt inn)] 127 := ⟨_, _, rfl, rfl, (Upd.refl _ _).alloc _, Blk.new _ _ _⟩
    have HU1 := hd (HU.out.trans hu1)
    have HB1 := hd (HB.out.upd hu1 (by simp))
    have hlt1 := HB1.out.lt
    clear hu1 HU HB hkl
    go_upto_region 4 with fail
    obtain ⟨W2, k3, hk3, hW2, hu2, hP⟩ := e3
    rw [hW2, hk3]
    rw [hk3] at hlt1
    clear hW2 hk3
    have HU2 := hd (HU1.out.trans hu2)
    have HB2 := hd (HB1.out.upd hu2 (by simp))
    have HP2 := hd hP
    have hpc := hP.cell
    have hpl := hP.lt
    clear hu2 hP HU1 HB1
    go_wp2_with fail
    refine (HTU.out W2).mono ?_
    rintro x w3 ⟨rfl, hu3⟩
    have e4 : ∃ W4 k5, w3.heap.size = k5 ∧ w3.alloc (.cells #[.string (txt l2), .int .i64 er2] 131) = W4 ∧ Upd [] w3 W4 ∧ Blk W4 k5 #[.string (txt l2), .int .i64 er2] 131 := ⟨_, _, rfl, rfl, (Upd.refl _ _).alloc _, Blk.new _ _ _⟩
    have HU3 := hd (HU2.out.trans hu3)
    have HB3 := hd (HB2.out.upd hu3 (by simp))
    have HP3 := hd (HP2.out.upd hu3 (by simp))
    have hlt3 : k3 < w3.heap.size := HP3.out.lt
    clear hu3 hpc hpl HU2 HB2 HP2
    go_upto_region 5 with fail
    obtain ⟨W4, k5, hk5, hW4, hu4, hC⟩ := e4
    rw [hW4, hk5]
    rw [hk5] at hlt3
    clear hW4 hk5
    have HU4 := hd (HU3.out.trans hu4)
    have HB4 := hd (HB3.out.upd hu4 (by simp))
    have HP4 := hd (HP3.out.upd hu4 (by simp))
    have HC4 := hd hC
    have hcc := hC.cell
    clear hu4 hC HU3 HB3 HP3
    go_wp2_with fail
    refine (HTS.out W4).mono ?_
    rintro x w5 ⟨rfl, hu5⟩
    have hC5 := HC4.out.upd hu5 (by simp)
    clear hcc
    have hcq := hC5.cell
    have hcz := hC5.frozen
    obtain ⟨W6, e6, u6, b6⟩ := set2 hC5 (.string (txt l3)) (.int .i64 e3)
    have HE6 := hd e6
    have HU6 := hd ((HU4.out.trans hu5).trans' u6 (by intro i hi; simp at hi; omega))
    have HB6 := hd ((HB4.out.upd hu5 (by simp)).upd u6 (by simp; omega))
    have HP6 := hd ((HP4.out.upd hu5 (by simp)).upd u6 (by simp; omega))
    have HC6 := hd b6
    clear e6 u6 b6 hu5 hC5 HU4 HB4 HP4 HC4
    go_upto_region 6 with fail
    rw [HE6.out]
    clear hcq hcz
    have hcc := HC6.out.cell
    go_wp2_with fail
    refine (HTD.out W6).mono ?_
    rintro x w7 ⟨rfl, hu7⟩
    have hC7 := HC6.out.upd hu7 (by simp)
    clear hcc
    have hcq := hC7.cell
    have hcz := hC7.frozen
    obtain ⟨W8, e8, u8, b8⟩ := set2 hC7 (.string (txt dl)) (.int .i64 de)
    have HE8 := hd e8
    have HU8 := hd ((HU6.out.trans hu7).trans' u8 (by intro i hi; simp at hi; omega))
    have HB8 := hd ((HB6.out.upd hu7 (by simp)).upd u8 (by simp; omega))
    have HP8 := hd ((HP6.out.upd hu7 (by simp)).upd u8 (by simp; omega))
    have HC8 := hd b8
    clear e8 u8 b8 hu7 hC7 HU6 HB6 HP6 HC6
    go_upto_region 7 with fail
    rw [HE8.out]
    clear hcq hcz HE6 HE8
    have hcc := HC8.out.cell
    have hpc := HP8.out.cell
    have hwi : IntKind.i64.wrap ((inn.length : Int) + 8) = inn.length + 8 := by rw [IntKind.wrap_i64]; omega
    go_cut [54] (fun s54 wx => s54 = .bool (!decide (er = 0 ∧ kd = 1 ∧ inn.length + 8 = s.length ∧ de = 0 ∧ uv ≠ 0)) ∧ wx = W8)
    case first =>
      by_cases c1 : er = 0
      · have c1' : (er != 0) = false := by simp [c1]
        by_cases c2 : kd = 1
        · have c2' : ((kd.toNat : Int) != 1) = false := by rw [c2]; rfl
          by_cases c3 : inn.length + 8 = s.length
          · have c3' : ((inn.length : Int) + 8 != (s.length : Int)) = false := by simp; omega
            by_cases c4 : de = 0
            · have c4' : (de != 0) = false := by simp [c4]
              by_cases c5 : uv = 0
              · have c5' : ((uv : Int) == 0) = true := by simp [c5]
                have HC := hd (show (!decide (er = 0 ∧ kd = 1 ∧ inn.length + 8 = s.length ∧ de = 0 ∧ uv ≠ 0)) = true by simp [c5])
                clear c1 c2 c3 c4 c5
                go_wp2_with fail
                go_meet
                case rel => rw [HC.out]; exact ⟨rfl, rfl⟩
              · have c5' : ((uv : Int) == 0) = false := by simp; omega
                have HC := hd (show (!decide (er = 0 ∧ kd = 1 ∧ inn.length + 8 = s.length ∧ de = 0 ∧ uv ≠ 0)) = false by simp [c1, c2, c3, c4, c5])
                clear c1 c2 c3 c4 c5
                go_wp2_with fail
                go_meet
                case rel => rw [HC.out]; exact ⟨rfl, rfl⟩
            · have c4' : (de != 0) = true := by simpa using c4
              have HC := hd (show (!decide (er = 0 ∧ kd = 1 ∧ inn.length + 8 = s.length ∧ de = 0 ∧ uv ≠ 0)) = true by simp [c4])
              clear c1 c2 c3 c4
              go_wp2_with fail
              go_meet
              case rel => rw [HC.out]; exact ⟨rfl, rfl⟩
          · have c3' : ((inn.length : Int) + 8 != (s.length : Int)) = true := by simp; omega
            have HC := hd (show (!decide (er = 0 ∧ kd = 1 ∧ inn.length + 8 = s.length ∧ de = 0 ∧ uv ≠ 0)) = true by simp [c3])
            clear c1 c2 c3
            go_wp2_with fail
            go_meet
            case rel => rw [HC.out]; exact ⟨rfl, rfl⟩
        · have c2' : ((kd.toNat : Int) != 1) = true := by
            simp only [bne_iff_ne, ne_eq]
            intro e
            exact c2 (UInt8.toNat_inj.1 (show kd.toNat = 1 by omega))
          have HC := hd (show (!decide (er = 0 ∧ kd = 1 ∧ inn.length + 8 = s.length ∧ de = 0 ∧ uv ≠ 0)) = true by simp [c2])
          clear c1 c2
          go_wp2_with fail
          go_meet
          case rel => rw [HC.out]; exact ⟨rfl, rfl⟩
      · have c1' : (er != 0) = true := by simpa using c1
        have HC := hd (show (!decide (er = 0 ∧ kd = 1 ∧ inn.length + 8 = s.length ∧ de = 0 ∧ uv ≠ 0)) = true by simp [c1])
        clear c1
        go_wp2_with fail
        go_meet
        case rel => rw [HC.out]; exact ⟨rfl, rfl⟩
    case rest =>
      obtain ⟨rfl, rfl⟩ := hcut
      clear hcc hpc hwi
      have hbq := HB8.out.cell
      have hbz := HB8.out.frozen
      by_cases hg : er = 0 ∧ kd = 1 ∧ inn.length + 8 = s.length ∧ de = 0 ∧ uv ≠ 0
      · have HG := hd (show (!decide (er = 0 ∧ kd = 1 ∧ inn.length + 8 = s.length ∧ de = 0 ∧ uv ≠ 0)) = false by simp only [hg, ne_eq, not_false_eq_true, and_self, decide_true, Bool.not_true])
        have hx := HX.out.trans (if_pos hg)
        rw [HG.out]
        injection hx with x1 x2 x3
        subst x1 x2 x3
        clear hg HX HG
        obtain ⟨W9, e9, u9, b9⟩ := set3 HB8.out (.int .u64 (pv : Int)) (.string (txt pt)) (.bool false)
        have HE := hd e9
        have HU9 := hd (HU8.out.trans' u9 (by intro i hi; simp at hi; omega))
        have HB9 := hd b9
        clear e9 u9 b9
        go_wp2_with fail
        rw [HE.out]
        have hbc := HB9.out.cell
        refine bodyPost_ret (v := .agg #[.int .u64 (pv : Int), .string (txt pt), .bool false]) (by simp [results, Try.results61, go_sem, hbc]) rfl ?_
        exact ⟨rfl, HU9.out⟩
      · have HG := hd (show (!decide (er = 0 ∧ kd = 1 ∧ inn.length + 8 = s.length ∧ de = 0 ∧ uv ≠ 0)) = true by rw [decide_eq_false hg]; rfl)
        have hx := HX.out.trans (if_neg hg)
        rw [HG.out]
        injection hx with x1 x2 x3
        subst x1 x2 x3
        clear hg HX HG
        obtain ⟨W9, e9, u9, b9⟩ := set3 HB8.out (.int .u64 0) (.string ⟨#[]⟩) (.bool true)
        have HE := hd e9
        have HU9 := hd (HU8.out.trans' u9 (by intro i hi; simp at hi; omega))
        have HB9 := hd b9
        clear e9 u9 b9
        go_wp2_with fail
        rw [HE.out]
        have hbc := HB9.out.cell
        refine bodyPost_ret (v := .agg #[.int .u64 0, .string ⟨#[]⟩, .bool true]) (by simp [results, Try.results61, go_sem, hbc]) rfl ?_
        exact ⟨rfl, HU9.out⟩

/-- What the reference's Open answers. -/
def refOpenL (s t : List UInt8) : Nat × List UInt8 × Int :=
  if (parseL t).bad = true ∧ (parseL s).version = 0 then (0, [], 7)
  else if (parseL s).version = 0 ∧ (parseL t).version = 0 then (0, [], 0)
  else if (parseL s).version < (parseL t).version then ((parseL t).version, (parseL t).text, 0) else ((parseL s).version, (parseL s).text, 0)

set_option maxHeartbeats 8000000 in
theorem refOpen12_any (s t : List UInt8) (w : World) (hs : s.length ≤ 1099511627776) (ht : t.length ≤ 1099511627776) :
    Calls Try.prog 31 #[.string (txt s), .string (txt t)] w fun x w' => x = .returned (.tuple #[.int .u64 ((refOpenL s t).1 : Int), .string (txt (refOpenL s t).2.1), .int .i64 (refOpenL s t).2.2]) ∧ Upd [] w w' := by
  have HPA := hd (fun W => refParse_any s W hs)
  have HPB := hd (fun W => refParse_any t W ht)
  have HRO := hd (show refOpenL s t = if (parseL t).bad = true ∧ (parseL s).version = 0 then (0, [], 7) else if (parseL s).version = 0 ∧ (parseL t).version = 0 then (0, [], 0) else if (parseL s).version < (parseL t).version then ((parseL t).version, (parseL t).text, 0) else ((parseL s).version, (parseL s).text, 0) from rfl)
  have hz := parse_zero s
  have hes : ((txt s).toList.isEmpty = true ∧ s = []) ∨ ((txt s).toList.isEmpty = false ∧ ¬ s = []) := by
    rw [txt_list]
    cases s with
    | nil => exact .inl ⟨rfl, rfl⟩
    | cons c r => exact .inr ⟨rfl, by simp⟩
  generalize parseL t = b at *
  generalize parseL s = a at *
  obtain ⟨av, at_, ab⟩ := a
  obtain ⟨bv, bt, bb⟩ := b
  simp only at HPA HPB HRO hz
  generalize refOpenL s t = R at *
  have HZ := hd hz
  clear hz
  go_enter Try.func31, Try.ntmps31
  go_wp2_with fail
  refine (HPA.out w).mono ?_
  rintro x w1 ⟨rfl, hu1⟩
  have e1 : ∃ W2 k1, w1.heap.size = k1 ∧ w1.alloc (.cells #[.int .u64 (av : Int), .string (txt at_), .bool ab] 110) = W2 ∧ Upd [] w1 W2 ∧ Blk W2 k1 #[.int .u64 (av : Int), .string (txt at_), .bool ab] 110 := ⟨_, _, rfl, rfl, (Upd.refl _ _).alloc _, Blk.new _ _ _⟩
  go_upto_region 2 with fail
  obtain ⟨W2, k1, hk1, hW2, hu2, hA⟩ := e1
  rw [hW2, hk1]
  clear hW2 hk1
  have HU2 := hd (hu1.trans hu2)
  have HA2 := hd hA
  clear hu1 hu2 hA
  go_wp2_with fail
  refine (HPB.out W2).mono ?_
  rintro x w3 ⟨rfl, hu3⟩
  have e3 : ∃ W4 k3, w3.heap.size = k3 ∧ w3.alloc (.cells #[.int .u64 (bv : Int), .string (txt bt), .bool bb] 110) = W4 ∧ Upd [] w3 W4 ∧ Blk W4 k3 #[.int .u64 (bv : Int), .string (txt bt), .bool bb] 110 := ⟨_, _, rfl, rfl, (Upd.refl _ _).alloc _, Blk.new _ _ _⟩
  go_upto_region 3 with fail
  obtain ⟨W4, k3, hk3, hW4, hu4, hB⟩ := e3
  rw [hW4, hk3]
  clear hW4 hk3
  have HU4 := hd ((HU2.out.trans hu3).trans hu4)
  have hA4 := (HA2.out.upd hu3 (by simp)).upd hu4 (by simp)
  have hac := hA4.cell
  have hbc := hB.cell
  clear hu3 hu4 hB hA4 HU2 HA2
  go_cut [22] (fun s22 wx => s22 = .bool (decide (bb = true ∧ av = 0)) ∧ wx = W4)
  case first =>
    rcases hbb : bb with _ | _
    · have HC := hd (show decide (bb = true ∧ av = 0) = false by simp [hbb])
      rw [hbb] at hbc
      clear hbb hes
      go_wp2_with fail
      go_meet
      case rel => rw [HC.out]; exact ⟨rfl, rfl⟩
    · rw [hbb] at hbc
      rcases hab : ab with _ | _
      · rw [hab] at hac
        rcases hes with ⟨h1, h2⟩ | ⟨h1, h2⟩
        · have HC := hd (show decide (bb = true ∧ av = 0) = true by simp [HZ.out, hab, h2, hbb])
          have h3 : (txt s).toList = [] := by rw [txt_list]; exact h2
          clear hab h2 hbb
          go_wp2_with fail
          go_meet
          case rel => rw [HC.out]; exact ⟨rfl, rfl⟩
        · have HC := hd (show decide (bb = true ∧ av = 0) = false by simp [HZ.out, hab, h2, hbb])
          have h3 : ¬ (txt s).toList = [] := by rw [txt_list]; exact h2
          clear hab h2 hbb
          go_wp2_with fail
          go_meet
          case rel => rw [HC.out]; exact ⟨rfl, rfl⟩
      · rw [hab] at hac
        have HC := hd (show decide (bb = true ∧ av = 0) = true by simp [HZ.out, hab, hbb])
        clear hab hes hbb
        go_wp2_with fail
        go_meet
        case rel => rw [HC.out]; exact ⟨rfl, rfl⟩
  case rest =>
    obtain ⟨rfl, rfl⟩ := hcut
    clear hes
    by_cases h1 : bb = true ∧ av = 0
    · have HX := hd (HRO.out.trans (if_pos h1))
      have HD := hd (show decide (bb = true ∧ av = 0) = true by simpa using h1)
      rw [HD.out]
      clear h1
      go_wp2_with fail
      go_ret3
      rw [HX.out]
      exact ⟨rfl, HU4.out⟩
    · have HX := hd (HRO.out.trans (if_neg h1))
      have HD := hd (show decide (bb = true ∧ av = 0) = false by simpa using h1)
      rw [HD.out]
      clear h1
      by_cases h2 : av = 0
      · have h2' : ((av : Int) == 0) = true := by simp [h2]
        by_cases h3 : bv = 0
        · have h3' : ((bv : Int) == 0) = true := by simp [h3]
          have HY := hd (HX.out.trans (if_pos ⟨h2, h3⟩))
          clear h2 h3
          go_wp2_with fail
          go_ret3
          rw [HY.out]
          exact ⟨rfl, HU4.out⟩
        · have h3' : ((bv : Int) == 0) = false := by simp; omega
          have h4 : av < bv := by omega
          have h4' : (av : Int) < (bv : Int) := by omega
          have HY := hd ((HX.out.trans (if_neg (fun q => h3 q.2))).trans (if_pos h4))
          clear h2 h3 h4
          go_wp2_with fail
          go_region_with fail
          all_goals
            go_wp2_with fail
            go_ret3
            rw [HY.out]
            first
            | exact ⟨rfl, HU4.out⟩
            | exact ⟨rfl, HU4.out.drew⟩
      · have h2' : ((av : Int) == 0) = false := by simp; omega
        by_cases h4 : av < bv
        · have h4' : (av : Int) < (bv : Int) := by omega
          have HY := hd ((HX.out.trans (if_neg (fun q => h2 q.1))).trans (if_pos h4))
          clear h2 h4
          go_wp2_with fail
          go_region_with fail
          all_goals
            go_wp2_with fail
            go_ret3
            rw [HY.out]
            first
            | exact ⟨rfl, HU4.out⟩
            | exact ⟨rfl, HU4.out.drew⟩
        · have h4' : ¬ (av : Int) < (bv : Int) := by omega
          have HY := hd ((HX.out.trans (if_neg (fun q => h2 q.1))).trans (if_neg h4))
          clear h2 h4
          go_wp2_with fail
          go_region_with fail
          all_goals
            go_wp2_with fail
            go_ret3
            rw [HY.out]
            first
            | exact ⟨rfl, HU4.out⟩
            | exact ⟨rfl, HU4.out.drew⟩
end Go.Proofs.Ytjaoiaknglnomaa
