/-
  seal: digits, walked for three and for four bytes. Conditions: a number of 32 bits.
-/
import Derived.Test.YtjaoiaknglnomaaWm2
import Derived.Deep.RegionHeld3
import Derived.BigRegion
import Derived.Deep.Cut
import Derived.Deep.CutRange
import Derived.Deep.CutBlock
set_option linter.unusedVariables false
set_option linter.unusedSimpArgs false
set_option maxRecDepth 100000
namespace Go.Proofs.Ytjaoiaknglnomaa
open Go.RowKit

/-- The row while its digits are laid: the last j are there. -/
def digL (v n j : Nat) : List UInt8 := List.replicate (n - j) 0 ++ wideOf v j
theorem digL_set (v n j : Nat) (h : j < n) : (digL v n j).set (n - 1 - j) (UInt8.ofNat (v / 256 ^ j)) = digL v n (j + 1) := by
  unfold digL
  obtain ⟨m, hm⟩ : ∃ m, n - j = m + 1 := ⟨n - j - 1, by omega⟩
  rw [hm, show n - 1 - j = m by omega, show n - (j + 1) = m by omega, List.replicate_succ', List.append_assoc]
  rw [List.set_append]
  simp [wideOf]
theorem u8s_set (l : List UInt8) (i : Nat) (b : UInt8) : (u8s l).toArray.setIfInBounds i (.int .u8 (b.toNat : Int)) = (u8s (l.set i b)).toArray := by
  simp [u8s, List.map_set]
theorem digL_len (v n j : Nat) (h : j ≤ n) : (digL v n j).length = n := by
  unfold digL
  rw [List.length_append, List.length_replicate, wideOf_length]; omega
theorem digL_all (v n : Nat) : digL v n n = wideOf v n := by simp [digL]
theorem digL_none (v n : Nat) : digL v n 0 = List.replicate n 0 := by simp [digL, wideOf]

set_option maxHeartbeats 1000000 in
theorem digits3_any (v : Nat) (w : World) (hv : v < 4294967296) :
    Calls Try.prog 103 #[.int .u32 v, .int .i64 3] w fun x w' => x = .returned (.string (txt (wideOf v 3))) ∧ Upd [] w w' := by
  have hmk : ∀ W : World, (Instr.makeSlice 47 (.int .i64 3) (.int .i64 3)).run Try.prog W = .ok (.slice (some ⟨W.heap.size, 0, none⟩) 3 3) (W.alloc (.cells (u8s (digL v 3 0)).toArray 5)) := fun _ => by
    rw [digL_none]
    kernel_rfl
  go_enter Try.func103, Try.ntmps103
  go_wp2_with fail
  go_loopw [11] (fun c wr => ∃ j : Nat, c = .int .i64 j ∧ j ≤ 3 ∧ Upd [] w wr ∧ Blk wr w.heap.size (u8s (digL v 3 j)).toArray 5) (fun c _ => 3 - (intOf c).toNat)
  case atStart => exact ⟨0, rfl, by omega, (Upd.refl _ _).alloc _, Blk.new _ _ _⟩
  case round =>
    obtain ⟨j, rfl, hj, hu, hb⟩ := hrel
    have hz := hb.frozen
    have HB := hd hb
    have HU := hd hu
    clear hu
    rcases (by omega : j = 0 ∨ j = 1 ∨ j = 2 ∨ j = 3) with rfl | rfl | rfl | rfl
    · have hci : wr.cell? ⟨w.heap.size, 2, none⟩ = some (.int .u8 0) := by rw [hb.cell]; rfl
      have HV := hd (show (((UInt8.ofNat (v / 256 ^ 0)).toNat : Nat) : Int) = ((v : Int) / 1) % 256 by simp)
      clear hb
      go_wp2_with fail
      go_roundw
      case rel =>
        refine ⟨1, rfl, by omega, HU.out.setCell (by simp) _, ?_⟩
        rw [← digL_set v 3 0 (by omega), ← u8s_set, HV.out]
        have h9 := HB.out.set 2 (.int .u8 (((v : Int) / 1) % 256))
        first | exact h9 | simpa using h9
      case measure => simp [intOf]
    · have hci : wr.cell? ⟨w.heap.size, 1, none⟩ = some (.int .u8 0) := by rw [hb.cell]; rfl
      have HV := hd (show (((UInt8.ofNat (v / 256 ^ 1)).toNat : Nat) : Int) = ((v : Int) / 256) % 256 by simp)
      clear hb
      go_wp2_with fail
      go_roundw
      case rel =>
        refine ⟨2, rfl, by omega, HU.out.setCell (by simp) _, ?_⟩
        rw [← digL_set v 3 1 (by omega), ← u8s_set, HV.out]
        have h9 := HB.out.set 1 (.int .u8 (((v : Int) / 256) % 256))
        first | exact h9 | simpa using h9
      case measure => simp [intOf]
    · have hci : wr.cell? ⟨w.heap.size, 0, none⟩ = some (.int .u8 0) := by rw [hb.cell]; rfl
      have HV := hd (show (((UInt8.ofNat (v / 256 ^ 2)).toNat : Nat) : Int) = ((v : Int) / 65536) % 256 by simp)
      clear hb
      go_wp2_with fail
      go_roundw
      case rel =>
        refine ⟨3, rfl, by omega, HU.out.setCell (by simp) _, ?_⟩
        rw [← digL_set v 3 2 (by omega), ← u8s_set, HV.out]
        have h9 := HB.out.set 0 (.int .u8 (((v : Int) / 65536) % 256))
        first | exact h9 | simpa using h9
      case measure => simp [intOf]
    · rw [digL_all] at hb
      clear hz
      go_wp2_with (refine wpList_conv_string rfl 47 9 5 (.tmp 26) rfl w.heap.size 0 3 3 (txt (wideOf v 3)) rfl Try.underlying47 Try.underlying5 Try.underlying9 (by simp [wideOf_length]) (fun i hi => by
        rw [Nat.zero_add, hb.cell]
        rw [txt_size, wideOf_length] at hi
        simp [u8s, txt, List.getD, List.getElem?_eq_getElem, hi, wideOf_length]) ?_)
      go_ret
      exact ⟨rfl, HU.out⟩
set_option maxHeartbeats 1000000 in
theorem digits4_any (v : Nat) (w : World) (hv : v < 4294967296) :
    Calls Try.prog 103 #[.int .u32 v, .int .i64 4] w fun x w' => x = .returned (.string (txt (wideOf v 4))) ∧ Upd [] w w' := by
  have hmk : ∀ W : World, (Instr.makeSlice 47 (.int .i64 4) (.int .i64 4)).run Try.prog W = .ok (.slice (some ⟨W.heap.size, 0, none⟩) 4 4) (W.alloc (.cells (u8s (digL v 4 0)).toArray 5)) := fun _ => by
    rw [digL_none]
    kernel_rfl
  go_enter Try.func103, Try.ntmps103
  go_wp2_with fail
  go_loopw [11] (fun c wr => ∃ j : Nat, c = .int .i64 j ∧ j ≤ 4 ∧ Upd [] w wr ∧ Blk wr w.heap.size (u8s (digL v 4 j)).toArray 5) (fun c _ => 4 - (intOf c).toNat)
  case atStart => exact ⟨0, rfl, by omega, (Upd.refl _ _).alloc _, Blk.new _ _ _⟩
  case round =>
    obtain ⟨j, rfl, hj, hu, hb⟩ := hrel
    have hz := hb.frozen
    have HB := hd hb
    have HU := hd hu
    clear hu
    rcases (by omega : j = 0 ∨ j = 1 ∨ j = 2 ∨ j = 3 ∨ j = 4) with rfl | rfl | rfl | rfl | rfl
    · have hci : wr.cell? ⟨w.heap.size, 3, none⟩ = some (.int .u8 0) := by rw [hb.cell]; rfl
      have HV := hd (show (((UInt8.ofNat (v / 256 ^ 0)).toNat : Nat) : Int) = ((v : Int) / 1) % 256 by simp)
      clear hb
      go_wp2_with fail
      go_roundw
      case rel =>
        refine ⟨1, rfl, by omega, HU.out.setCell (by simp) _, ?_⟩
        rw [← digL_set v 4 0 (by omega), ← u8s_set, HV.out]
        have h9 := HB.out.set 3 (.int .u8 (((v : Int) / 1) % 256))
        first | exact h9 | simpa using h9
      case measure => simp [intOf]
    · have hci : wr.cell? ⟨w.heap.size, 2, none⟩ = some (.int .u8 0) := by rw [hb.cell]; rfl
      have HV := hd (show (((UInt8.ofNat (v / 256 ^ 1)).toNat : Nat) : Int) = ((v : Int) / 256) % 256 by simp)
      clear hb
      go_wp2_with fail
      go_roundw
      case rel =>
        refine ⟨2, rfl, by omega, HU.out.setCell (by simp) _, ?_⟩
        rw [← digL_set v 4 1 (by omega), ← u8s_set, HV.out]
        have h9 := HB.out.set 2 (.int .u8 (((v : Int) / 256) % 256))
        first | exact h9 | simpa using h9
      case measure => simp [intOf]
    · have hci : wr.cell? ⟨w.heap.size, 1, none⟩ = some (.int .u8 0) := by rw [hb.cell]; rfl
      have HV := hd (show (((UInt8.ofNat (v / 256 ^ 2)).toNat : Nat) : Int) = ((v : Int) / 65536) % 256 by simp)
      clear hb
      go_wp2_with fail
      go_roundw
      case rel =>
        refine ⟨3, rfl, by omega, HU.out.setCell (by simp) _, ?_⟩
        rw [← digL_set v 4 2 (by omega), ← u8s_set, HV.out]
        have h9 := HB.out.set 1 (.int .u8 (((v : Int) / 65536) % 256))
        first | exact h9 | simpa using h9
      case measure => simp [intOf]
    · have hci : wr.cell? ⟨w.heap.size, 0, none⟩ = some (.int .u8 0) := by rw [hb.cell]; rfl
      have HV := hd (show (((UInt8.ofNat (v / 256 ^ 3)).toNat : Nat) : Int) = ((v : Int) / 16777216) % 256 by simp)
      clear hb
      go_wp2_with fail
      go_roundw
      case rel =>
        refine ⟨4, rfl, by omega, HU.out.setCell (by simp) _, ?_⟩
        rw [← digL_set v 4 3 (by omega), ← u8s_set, HV.out]
        have h9 := HB.out.set 0 (.int .u8 (((v : Int) / 16777216) % 256))
        have h8 : ((v : Int) / 16777216) % 256 = (v : Int) / 16777216 := by omega
        rw [h8] at h9 ⊢
        first | exact h9 | simpa using h9
      case measure => simp [intOf]
    · rw [digL_all] at hb
      clear hz
      go_wp2_with (refine wpList_conv_string rfl 47 9 5 (.tmp 26) rfl w.heap.size 0 4 4 (txt (wideOf v 4)) rfl Try.underlying47 Try.underlying5 Try.underlying9 (by simp [wideOf_length]) (fun i hi => by
        rw [Nat.zero_add, hb.cell]
        rw [txt_size, wideOf_length] at hi
        simp [u8s, txt, List.getD, List.getElem?_eq_getElem, hi, wideOf_length]) ?_)
      go_ret
      exact ⟨rfl, HU.out⟩

/-- A frame's bytes. -/
def bodyL (kind : UInt8) (s : List UInt8) : List UInt8 := kind :: (wideOf s.length 3 ++ s)
def frameL (kind : UInt8) (s : List UInt8) : List UInt8 := bodyL kind s ++ wideOf (sumN (bodyL kind s)) 4
theorem add_txt' (a b : List UInt8) (h : a.length + b.length ≤ 4611686018427387904) : ∀ W : World, (Op.stringOp .add (txt a) (txt b)).run Try.prog W = .ok (.string (txt (a ++ b))) W := fun W => by
  rw [run_string_add_sum _ _ _ (by simp; omega), txt_append]
theorem sumN_lt (l : List UInt8) : sumN l < 4294967296 := by unfold sumN; omega

set_option maxHeartbeats 4000000 in
theorem frame_any (s : List UInt8) (w : World) (hs : s.length ≤ 1048576) :
    Calls Try.prog 89 #[.int .u8 1, .string (txt s)] w fun x w' => x = .returned (.string (txt (frameL 1 s))) ∧ Upd [] w w' := by
  have hx : (txt s).extract 0 s.length = txt s := by rw [txt_head s s.length (Nat.le_refl _), List.take_length]
  have hwr : IntKind.u32.wrap (s.length : Int) = s.length := by rw [IntKind.wrap_u32]; omega
  have HD3 := hd (fun W => digits3_any s.length W (by omega))
  go_enter Try.func89, Try.ntmps89
  go_wp2_with fail
  have hcv : ∀ (k : Nat) (W : World), W.cell? ⟨k, 0, none⟩ = some (.int .u8 1) → (Go.convert 47 9 (.slice (some ⟨k, 0, none⟩) 1 1)).run Try.prog W = .ok (.string (txt [1])) W := fun k W h => by
    have hr := run_convert_bytes_arg (P := Try.prog) W 47 5 Try.underlying47 Try.underlying5 k 0 1 1 [1] rfl (fun i hi => by
      obtain rfl : i = 0 := by omega
      simpa using h) 9 Try.underlying9
    rw [show strOfNums [1] = txt [1] from rfl] at hr
    exact hr
  have hs1 := add_txt' [1] (wideOf s.length 3) (by simp [wideOf_length])
  have hs2 := add_txt' (1 :: wideOf s.length 3) s (by simp [wideOf_length]; omega)
  simp only [List.cons_append, List.nil_append] at hs1 hs2
  go_cut [5] from 11 to 21 (fun s5 wx => s5 = .string (txt (1 :: (wideOf s.length 3 ++ s))) ∧ Upd [] w wx)
  case first =>
    go_region_with (first
      | ((with_reducible refine (HD3.out (World.drew (World.alloc _ _))).mono ?_); rintro x w2 ⟨rfl, hu2⟩; have hcz := Blk.upd (Blk.drew (Blk.new _ _ _)) hu2 (by simp); have hcv2 := hcv _ _ (hcz.cell 0))
      | ((with_reducible refine (HD3.out _).mono ?_); rintro x w2 ⟨rfl, hu2⟩))
    all_goals
      go_wp2_with fail
      go_meet
      case rel => exact ⟨rfl, by repeat (first | with_reducible exact Upd.refl _ _ | with_reducible refine Upd.drew ?_ | with_reducible refine Upd.alloc ?_ _ | with_reducible refine Upd.trans ?_ hu2)⟩
  case rest =>
    obtain ⟨rfl, hu⟩ := hcut
    have HB := hd (show bodyL 1 s = 1 :: (wideOf s.length 3 ++ s) from rfl)
    have HFR := hd (show frameL 1 s = bodyL 1 s ++ wideOf (sumN (bodyL 1 s)) 4 from rfl)
    rw [← HB.out]
    have hbl : (bodyL 1 s).length ≤ 1048580 := by rw [HB.out]; simp [wideOf_length]; omega
    have HU := hd hu
    clear hs1 hs2 hcv hx hwr HD3 hu HB
    have HSL := hd (sumN_lt (bodyL 1 s))
    generalize bodyL 1 s = bl at *
    have HSM := hd (fun (k : Nat) (W : World) (h : Blk W k #[.string (txt bl)] 9) => sum_any bl k W h (by omega))
    have HD4 := hd (fun W => digits4_any (sumN bl) W HSL.out)
    have hs3 := add_txt' bl (wideOf (sumN bl) 4) (by rw [wideOf_length]; omega)
    go_wp2_with fail
    refine (HSM.out _ _ (Blk.new _ _ _)).mono ?_
    rintro x w1 ⟨rfl, rfl⟩
    generalize sumN bl = sm at *
    go_wp2_with fail
    refine (HD4.out _).mono ?_
    rintro x w2 ⟨rfl, hu2⟩
    go_wp2_with fail
    go_ret
    rw [HFR.out]
    exact ⟨rfl, (HU.out.alloc _).trans hu2⟩
end Go.Proofs.Ytjaoiaknglnomaa

/-
  seal.Open, walked. Condition: a text of a size that there is.
-/
set_option linter.unusedVariables false
set_option linter.unusedSimpArgs false
set_option maxRecDepth 100000
namespace Go.Proofs.Ytjaoiaknglnomaa
open Go.RowKit

/-- What is in a frame: its kind, its bytes, the error. -/
def openL (s : List UInt8) : UInt8 × List UInt8 × Int :=
  if s.length < 4 then (0, [], 3)
  else if s.headD 0 = 0 then (0, [], 4)
  else
    let n := numOf ((s.drop 1).take 3)
    if 1048576 < n then (0, [], 6)
    else if s.length < n + 8 then (0, [], 3)
    else if sumN (s.take (4 + n)) = numOf ((s.drop (4 + n)).take 4) then (s.headD 0, (s.drop 4).take n, 0)
    else (0, [], 5)

theorem txt_mid (l : List UInt8) (a b : Nat) (h : a ≤ b) (hb : b ≤ l.length) : (txt l).extract a b = txt ((l.drop a).take (b - a)) := by
  apply ByteArray.ext
  simp [txt, ByteArray.data_extract]

set_option maxHeartbeats 4000000 in
theorem open_any (s : List UInt8) (w : World) (hs : s.length ≤ 1099511627776) :
    Calls Try.prog 94 #[.string (txt s)] w fun x w' => x = .returned (.tuple #[.int .u8 ((openL s).1.toNat : Int), .string (txt (openL s).2.1), .int .i64 (openL s).2.2]) ∧ Upd [] w w' := by
  by_cases h4 : s.length < 4
  · have HO := hd (show openL s = (0, [], 3) by unfold openL; rw [if_pos h4])
    have h4' : (s.length : Int) < 4 := by omega
    go_enter Try.func94, Try.ntmps94
    go_wp2_with fail
    go_ret3
    rw [HO.out]
    exact ⟨rfl, Upd.refl _ _⟩
  · have h4' : ¬ (s.length : Int) < 4 := by omega
    have hm3 := txt_mid s 1 4 (by omega) (by omega)
    have hl3 : ((s.drop 1).take (4 - 1)).length ≤ 4 := by rw [List.length_take]; omega
    have HN3 := hd (number_any ((s.drop 1).take (4 - 1)) w hl3)
    have hn3 := numOf_lt ((s.drop 1).take (4 - 1))
    have hn3' : numOf ((s.drop 1).take (4 - 1)) < 16777216 := Nat.lt_of_lt_of_le hn3 (Nat.le_trans (Nat.pow_le_pow_right (by omega) (show _ ≤ 3 by rw [List.length_take]; omega)) (by decide))
    have hO1 : openL s = if s.headD 0 = 0 then (0, [], 4) else
        if 1048576 < numOf ((s.drop 1).take (4 - 1)) then (0, [], 6) else if s.length < numOf ((s.drop 1).take (4 - 1)) + 8 then (0, [], 3)
        else if sumN (s.take (4 + numOf ((s.drop 1).take (4 - 1)))) = numOf ((s.drop (4 + numOf ((s.drop 1).take (4 - 1)))).take 4) then (s.headD 0, (s.drop 4).take (numOf ((s.drop 1).take (4 - 1))), 0) else (0, [], 5) := by
      unfold openL; rw [if_neg h4]
    have HO := hd hO1
    clear hO1 hn3
    have hz : 0 < (txt s).size := by simp; omega
    obtain ⟨c, hcd, hc0s⟩ : ∃ c, s.headD 0 = c ∧ (txt s)[0]'hz = c := by
      refine ⟨_, rfl, ?_⟩
      rw [txt_at s 0 (by omega) hz]
      cases s with
      | nil => simp at h4
      | cons c r => rfl
    rw [hcd] at HO
    clear hcd
    generalize ((s.drop 1).take (4 - 1)) = q3 at *
    have hc256 : c.toNat < 256 := c.toNat_lt
    obtain ⟨l, hls⟩ : ∃ l, l = s := ⟨_, rfl⟩
    subst hls
    go_enter Try.func94, Try.ntmps94
    go_wp2_with fail
    refine HN3.out.mono ?_
    rintro x w1 ⟨rfl, rfl⟩
    generalize numOf q3 = n at *
    by_cases hc0 : c = 0
    · have hc0' : ((c.toNat : Int) == 0) = true := by rw [hc0]; rfl
      have HC := hd hc0
      clear hc0
      go_wp2_with fail
      go_ret3
      rw [HO.out, if_pos HC.out]
      exact ⟨rfl, Upd.refl _ _⟩
    · have hc0' : ((c.toNat : Int) == 0) = false := by
        simp only [beq_eq_false_iff_ne, ne_eq]
        intro e
        exact hc0 (UInt8.toNat_inj.1 (by simpa using e))
      have HC := hd hc0
      clear hc0
      by_cases hn : 1048576 < n
      · have hn' : (1048576 : Int) < (n : Int) := by omega
        go_wp2_with fail
        go_ret3
        rw [HO.out, if_neg HC.out, if_pos hn]
        exact ⟨rfl, Upd.refl _ _⟩
      · have hn' : ¬ (1048576 : Int) < (n : Int) := by omega
        by_cases hl8 : l.length < n + 8
        · have hl8' : (l.length : Int) < (n : Int) + 8 := by omega
          go_wp2_with fail
          go_ret3
          rw [HO.out, if_neg HC.out, if_neg hn, if_pos hl8]
          exact ⟨rfl, Upd.refl _ _⟩
        · have hl8' : ¬ (l.length : Int) < (n : Int) + 8 := by omega
          have hx1 := txt_head l (4 + n) (by omega)
          have hx2 := txt_mid l (4 + n) (n + 8) (by omega) (by omega)
          have hx3 := txt_mid l 4 (4 + n) (by omega) (by omega)
          rw [show n + 8 - (4 + n) = 4 by omega] at hx2
          rw [show 4 + n - 4 = n by omega] at hx3
          have hb1 : 0 ≤ (4 : Int) + n := by omega
          have hb2 : ((4 : Int) + n).toNat = 4 + n := by omega
          have hb3 : ((n : Int) + 8).toNat = n + 8 := by omega
          have hi3 : (4 : Int) + n ≤ l.length := by omega
          have hi4 : (n : Int) + 8 ≤ l.length := by omega
          have hi5 : (4 : Int) + n ≤ n + 8 := by omega
          have hi6 : (0 : Int) ≤ n + 8 := by omega
          have hi7 : (4 : Int) ≤ 4 + n := by omega
          have hi1 : IntKind.i64.wrap ((4 : Int) + n) = 4 + n := by rw [IntKind.wrap_i64]; omega
          have hi2 : IntKind.i64.wrap ((n : Int) + 8) = n + 8 := by rw [IntKind.wrap_i64]; omega
          have HSM := hd (fun (k : Nat) (W : World) (h : Blk W k #[.string (txt (l.take (4 + n)))] 9) => sum_any (l.take (4 + n)) k W h (by rw [List.length_take]; omega))
          have HNM := hd (fun W => number_any ((l.drop (4 + n)).take 4) W (by rw [List.length_take]; omega))
          have HOF := hd (show openL l = if sumN (l.take (4 + n)) = numOf ((l.drop (4 + n)).take 4) then (c, (l.drop 4).take n, 0) else (0, [], 5) by rw [HO.out, if_neg HC.out, if_neg hn, if_neg hl8])
          clear hn3' hm3 hl3 HN3 HO
          generalize sumN (l.take (4 + n)) = SM at *
          generalize numOf ((l.drop (4 + n)).take 4) = NM at *
          by_cases hsn : SM = NM
          · have hsn' : ((SM : Int) != (NM : Int)) = false := by simp [hsn]
            have HE := hd hsn
            clear hsn
            go_wp2_with fail
            go_region_held3 (fun W => Upd [] w W)
              ((repeat (first | with_reducible assumption | with_reducible exact Upd.refl _ _ | with_reducible refine Upd.drew ?_ | with_reducible refine Upd.alloc ?_ _)))
              (first
              | ((with_reducible refine (HSM.out _ _ (by repeat (first | with_reducible exact Blk.new _ _ _ | with_reducible refine Blk.drew ?_ | with_reducible refine Blk.alloc ?_ _))).mono ?_); rintro x w2 ⟨rfl, rfl⟩)
              | ((with_reducible refine (HNM.out _).mono ?_); rintro x w2 ⟨rfl, rfl⟩))
            all_goals
              go_wp2_with fail
              go_region
              go_wp2_with fail
              go_ret3
              rw [HOF.out, if_pos HE.out]
              exact ⟨rfl, (by repeat (first | with_reducible exact Upd.refl _ _ | with_reducible refine Upd.drew ?_ | with_reducible refine Upd.alloc ?_ _))⟩
          · have hsn' : ((SM : Int) != (NM : Int)) = true := by simp; omega
            have HE := hd hsn
            clear hsn
            go_wp2_with fail
            go_region_held3 (fun W => Upd [] w W)
              ((repeat (first | with_reducible assumption | with_reducible exact Upd.refl _ _ | with_reducible refine Upd.drew ?_ | with_reducible refine Upd.alloc ?_ _)))
              (first
              | ((with_reducible refine (HSM.out _ _ (by repeat (first | with_reducible exact Blk.new _ _ _ | with_reducible refine Blk.drew ?_ | with_reducible refine Blk.alloc ?_ _))).mono ?_); rintro x w2 ⟨rfl, rfl⟩)
              | ((with_reducible refine (HNM.out _).mono ?_); rintro x w2 ⟨rfl, rfl⟩))
            all_goals
              go_wp2_with fail
              go_ret3
              rw [HOF.out, if_neg HE.out]
              exact ⟨rfl, (by repeat (first | with_reducible exact Upd.refl _ _ | with_reducible refine Upd.drew ?_ | with_reducible refine Upd.alloc ?_ _))⟩
end Go.Proofs.Ytjaoiaknglnomaa
