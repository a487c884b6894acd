/-
  seal.Open, walked. Condition: a text of a size that there is.
-/
import Derived.Test.YtjaoiaknglnomaaSeal2
import Derived.BigRegion
import Derived.Deep.RegionHeld3
set_option linter.unusedVariables false
set_option linter.unusedSimpArgs false
set_option maxRecDepth 100000
namespace Go.Proofs.Ytjaoiaknglnomaa
open Go.RowKit

/-- What is in a frame: its kind, its bytes, the error. -/
def openL (s : List UInt8) : UInt8 × List UInt8 × Int :=
  if s.length < 4 then (0, [], 3)
  else if s.headD 0 = 0 then (0, [], 4)
  else
    let n := numOf ((s.drop 1).take 3)
    if 1048576 < n then (0, [], 6)
    else if s.length < n + 8 then (0, [], 3)
    else if sumN (s.take (4 + n)) = numOf ((s.drop (4 + n)).take 4) then (s.headD 0, (s.drop 4).take n, 0)
    else (0, [], 5)

theorem txt_mid (l : List UInt8) (a b : Nat) (h : a ≤ b) (hb : b ≤ l.length) : (txt l).extract a b = txt ((l.drop a).take (b - a)) := by
  apply ByteArray.ext
  simp [txt, ByteArray.data_extract]

set_option maxHeartbeats 4000000 in
theorem open_any (s : List UInt8) (w : World) (hs : s.length ≤ 1099511627776) :
    Calls Try.prog 94 #[.string (txt s)] w fun x w' => x = .returned (.tuple #[.int .u8 ((openL s).1.toNat : Int), .string (txt (openL s).2.1), .int .i64 (openL s).2.2]) ∧ Upd [] w w' := by
  by_cases h4 : s.length < 4
  · have HO := hd (show openL s = (0, [], 3) by unfold openL; rw [if_pos h4])
    have h4' : (s.length : Int) < 4 := by omega
    go_enter Try.func94, Try.ntmps94
    go_wp2_with fail
    go_ret3
    rw [HO.out]
    exact ⟨rfl, Upd.refl _ _⟩
  · have h4' : ¬ (s.length : Int) < 4 := by omega
    have hm3 := txt_mid s 1 4 (by omega) (by omega)
    have hl3 : ((s.drop 1).take (4 - 1)).length ≤ 4 := by rw [List.length_take]; omega
    have HN3 := hd (number_any ((s.drop 1).take (4 - 1)) w hl3)
    have hn3 := numOf_lt ((s.drop 1).take (4 - 1))
    have hn3' : numOf ((s.drop 1).take (4 - 1)) < 16777216 := Nat.lt_of_lt_of_le hn3 (Nat.le_trans (Nat.pow_le_pow_right (by omega) (show _ ≤ 3 by rw [List.length_take]; omega)) (by decide))
    have hO1 : openL s = if s.headD 0 = 0 then (0, [], 4) else
        if 1048576 < numOf ((s.drop 1).take (4 - 1)) then (0, [], 6) else if s.length < numOf ((s.drop 1).take (4 - 1)) + 8 then (0, [], 3)
        else if sumN (s.take (4 + numOf ((s.drop 1).take (4 - 1)))) = numOf ((s.drop (4 + numOf ((s.drop 1).take (4 - 1)))).take 4) then (s.headD 0, (s.drop 4).take (numOf ((s.drop 1).take (4 - 1))), 0) else (0, [], 5) := by
      unfold openL; rw [if_neg h4]
    have HO := hd hO1
    clear hO1 hn3
    have hz : 0 < (txt s).size := by simp; omega
    obtain ⟨c, hcd, hc0s⟩ : ∃ c, s.headD 0 = c ∧ (txt s)[0]'hz = c := by
      refine ⟨_, rfl, ?_⟩
      rw [txt_at s 0 (by omega) hz]
      cases s with
      | nil => simp at h4
      | cons c r => rfl
    rw [hcd] at HO
    clear hcd
    generalize ((s.drop 1).take (4 - 1)) = q3 at *
    have hc256 : c.toNat < 256 := c.toNat_lt
    obtain ⟨l, hls⟩ : ∃ l, l = s := ⟨_, rfl⟩
    subst hls
    go_enter Try.func94, Try.ntmps94
    go_wp2_with fail
    refine HN3.out.mono ?_
    rintro x w1 ⟨rfl, rfl⟩
    generalize numOf q3 = n at *
    by_cases hc0 : c = 0
    · have hc0' : ((c.toNat : Int) == 0) = true := by rw [hc0]; rfl
      have HC := hd hc0
      clear hc0
      go_wp2_with fail
      go_ret3
      rw [HO.out, if_pos HC.out]
      exact ⟨rfl, Upd.refl _ _⟩
    · have hc0' : ((c.toNat : Int) == 0) = false := by
        simp only [beq_eq_false_iff_ne, ne_eq]
        intro e
        exact hc0 (UInt8.toNat_inj.1 (by simpa using e))
      have HC := hd hc0
      clear hc0
      by_cases hn : 1048576 < n
      · have hn' : (1048576 : Int) < (n : Int) := by omega
        go_wp2_with fail
        go_ret3
        rw [HO.out, if_neg HC.out, if_pos hn]
        exact ⟨rfl, Upd.refl _ _⟩
      · have hn' : ¬ (1048576 : Int) < (n : Int) := by omega
        by_cases hl8 : l.length < n + 8
        · have hl8' : (l.length : Int) < (n : Int) + 8 := by omega
          go_wp2_with fail
          go_ret3
          rw [HO.out, if_neg HC.out, if_neg hn, if_pos hl8]
          exact ⟨rfl, Upd.refl _ _⟩
        · have hl8' : ¬ (l.length : Int) < (n : Int) + 8 := by omega
          have hx1 := txt_head l (4 + n) (by omega)
          have hx2 := txt_mid l (4 + n) (n + 8) (by omega) (by omega)
          have hx3 := txt_mid l 4 (4 + n) (by omega) (by omega)
          rw [show n + 8 - (4 + n) = 4 by omega] at hx2
          rw [show 4 + n - 4 = n by omega] at hx3
          have hb1 : 0 ≤ (4 : Int) + n := by omega
          have hb2 : ((4 : Int) + n).toNat = 4 + n := by omega
          have hb3 : ((n : Int) + 8).toNat = n + 8 := by omega
          have hi3 : (4 : Int) + n ≤ l.length := by omega
          have hi4 : (n : Int) + 8 ≤ l.length := by omega
          have hi5 : (4 : Int) + n ≤ n + 8 := by omega
          have hi6 : (0 : Int) ≤ n + 8 := by omega
          have hi7 : (4 : Int) ≤ 4 + n := by omega
          have hi1 : IntKind.i64.wrap ((4 : Int) + n) = 4 + n := by rw [IntKind.wrap_i64]; omega
          have hi2 : IntKind.i64.wrap ((n : Int) + 8) = n + 8 := by rw [IntKind.wrap_i64]; omega
          have HSM := hd (fun (k : Nat) (W : World) (h : Blk W k #[.string (txt (l.take (4 + n)))] 9) => sum_any (l.take (4 + n)) k W h (by rw [List.length_take]; omega))
          have HNM := hd (fun W => number_any ((l.drop (4 + n)).take 4) W (by rw [List.length_take]; omega))
          have HOF := hd (show openL l = if sumN (l.take (4 + n)) = numOf ((l.drop (4 + n)).take 4) then (c, (l.drop 4).take n, 0) else (0, [], 5) by rw [HO.out, if_neg HC.out, if_neg hn, if_neg hl8])
          clear hn3' hm3 hl3 HN3 HO
          generalize sumN (l.take (4 + n)) = SM at *
          generalize numOf ((l.drop (4 + n)).take 4) = NM at *
          by_cases hsn : SM = NM
          · have hsn' : ((SM : Int) != (NM : Int)) = false := by simp [hsn]
            have HE := hd hsn
            clear hsn
            go_wp2_with fail
            go_region_held3 (fun W => Upd [] w W)
              ((repeat (first | with_reducible assumption | with_reducible exact Upd.refl _ _ | with_reducible refine Upd.drew ?_ | with_reducible refine Upd.alloc ?_ _)))
              (first
              | ((with_reducible refine (HSM.out _ _ (by repeat (first | with_reducible exact Blk.new _ _ _ | with_reducible refine Blk.drew ?_ | with_reducible refine Blk.alloc ?_ _))).mono ?_); rintro x w2 ⟨rfl, rfl⟩)
              | ((with_reducible refine (HNM.out _).mono ?_); rintro x w2 ⟨rfl, rfl⟩))
            all_goals
              go_wp2_with fail
              go_region
              go_wp2_with fail
              go_ret3
              rw [HOF.out, if_pos HE.out]
              exact ⟨rfl, (by repeat (first | with_reducible exact Upd.refl _ _ | with_reducible refine Upd.drew ?_ | with_reducible refine Upd.alloc ?_ _))⟩
          · have hsn' : ((SM : Int) != (NM : Int)) = true := by simp; omega
            have HE := hd hsn
            clear hsn
            go_wp2_with fail
            go_region_held3 (fun W => Upd [] w W)
              ((repeat (first | with_reducible assumption | with_reducible exact Upd.refl _ _ | with_reducible refine Upd.drew ?_ | with_reducible refine Upd.alloc ?_ _)))
              (first
              | ((with_reducible refine (HSM.out _ _ (by repeat (first | with_reducible exact Blk.new _ _ _ | with_reducible refine Blk.drew ?_ | with_reducible refine Blk.alloc ?_ _))).mono ?_); rintro x w2 ⟨rfl, rfl⟩)
              | ((with_reducible refine (HNM.out _).mono ?_); rintro x w2 ⟨rfl, rfl⟩))
            all_goals
              go_wp2_with fail
              go_ret3
              rw [HOF.out, if_neg HE.out]
              exact ⟨rfl, (by repeat (first | with_reducible exact Upd.refl _ _ | with_reducible refine Upd.drew ?_ | with_reducible refine Upd.alloc ?_ _))⟩
end Go.Proofs.Ytjaoiaknglnomaa
