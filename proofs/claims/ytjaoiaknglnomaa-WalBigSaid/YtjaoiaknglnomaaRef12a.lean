/-
  chatelaineref02.Frame and chatelaineref12.Spell, walked: they answer as seal.Frame and twin.spell. Condition: texts of sizes that there are.
-/
import Derived.Test.YtjaoiaknglnomaaRef02a
set_option linter.unusedVariables false
set_option linter.unusedSimpArgs false
set_option maxRecDepth 100000
namespace Go.Proofs.Ytjaoiaknglnomaa
open Go.RowKit

theorem refDigits3_any (x : Nat) (w : World) (hx : x < 4294967296) :
    Calls Try.prog 69 #[.int .u32 x, .int .i64 3] w fun e w' => e = .returned (.string (txt (wideOf x 3))) ∧ Upd [] w w' := refDigits_any x 3 w hx (by decide)
theorem refDigits4_any (x : Nat) (w : World) (hx : x < 4294967296) :
    Calls Try.prog 69 #[.int .u32 x, .int .i64 4] w fun e w' => e = .returned (.string (txt (wideOf x 4))) ∧ Upd [] w w' := refDigits_any x 4 w hx (by decide)

set_option maxHeartbeats 4000000 in
theorem refFrame_any (s : List UInt8) (w : World) (hs : s.length ≤ 1048576) :
    Calls Try.prog 43 #[.int .u8 1, .string (txt s)] w fun x w' => x = .returned (.string (txt (frameL 1 s))) ∧ Upd [] w w' := by
  have hwr : IntKind.u32.wrap (s.length : Int) = s.length := by rw [IntKind.wrap_u32]; omega
  have HD3 := hd (fun W => refDigits3_any s.length W (by omega))
  go_enter Try.func43, Try.ntmps43
  go_wp2_with fail
  have hcv : ∀ (k : Nat) (W : World), W.cell? ⟨k, 0, none⟩ = some (.int .u8 1) → (Go.convert 47 9 (.slice (some ⟨k, 0, none⟩) 1 1)).run Try.prog W = .ok (.string (txt [1])) W := fun k W h => by
    have hr := run_convert_bytes_arg (P := Try.prog) W 47 5 Try.underlying47 Try.underlying5 k 0 1 1 [1] rfl (fun i hi => by
      obtain rfl : i = 0 := by omega
      simpa using h) 9 Try.underlying9
    rw [show strOfNums [1] = txt [1] from rfl] at hr
    exact hr
  have hs1 := add_txt' [1] (wideOf s.length 3) (by simp [wideOf_length])
  have hs2 := add_txt' (1 :: wideOf s.length 3) s (by simp [wideOf_length]; omega)
  simp only [List.cons_append, List.nil_append] at hs1 hs2
  go_cut [5] from 6 to 16 (fun s5 wx => s5 = .string (txt (1 :: (wideOf s.length 3 ++ s))) ∧ Upd [] w wx)
  case first =>
    go_region_with (first
      | ((with_reducible refine (HD3.out (World.drew (World.alloc _ _))).mono ?_); rintro x w2 ⟨rfl, hu2⟩; have hcz := Blk.upd (Blk.drew (Blk.new _ _ _)) hu2 (by simp); have hcv2 := hcv _ _ (hcz.cell 0))
      | ((with_reducible refine (HD3.out _).mono ?_); rintro x w2 ⟨rfl, hu2⟩))
    all_goals
      go_wp2_with fail
      go_meet
      case rel => exact ⟨rfl, by repeat (first | with_reducible exact Upd.refl _ _ | with_reducible refine Upd.drew ?_ | with_reducible refine Upd.alloc ?_ _ | with_reducible refine Upd.trans ?_ hu2)⟩
  case rest =>
    obtain ⟨rfl, hu⟩ := hcut
    have HB := hd (show bodyL 1 s = 1 :: (wideOf s.length 3 ++ s) from rfl)
    have HFR := hd (show frameL 1 s = bodyL 1 s ++ wideOf (sumN (bodyL 1 s)) 4 from rfl)
    rw [← HB.out]
    have hbl : (bodyL 1 s).length ≤ 1048580 := by rw [HB.out]; simp [wideOf_length]; omega
    have HU := hd hu
    clear hs1 hs2 hcv hwr HD3 hu HB
    have HSL := hd (sumN_lt (bodyL 1 s))
    generalize bodyL 1 s = bl at *
    have HSM := hd (fun (W : World) => refSum_any bl W (by omega))
    have HD4 := hd (fun W => refDigits4_any (sumN bl) W HSL.out)
    have hs3 := add_txt' bl (wideOf (sumN bl) 4) (by rw [wideOf_length]; omega)
    go_wp2_with fail
    refine (HSM.out _).mono ?_
    rintro x w1 ⟨rfl, rfl⟩
    generalize sumN bl = sm at *
    go_wp2_with fail
    refine (HD4.out _).mono ?_
    rintro x w2 ⟨rfl, hu2⟩
    go_wp2_with fail
    go_ret
    rw [HFR.out]
    exact ⟨rfl, HU.out.trans hu2⟩

set_option maxHeartbeats 2000000 in
theorem refSpell_any (v : Nat) (s : List UInt8) (w : World) (hv : v < 18446744073709551616) (hs : s.length ≤ 1000000) :
    Calls Try.prog 32 #[.int .u64 v, .string (txt s)] w fun x w' => x = .returned (.string (txt (spellL v s))) ∧ Upd [] w w' := by
  have hul := uBytes_le v
  have hnl := nBytes_le (s.length : Int)
  have HV := hd hv
  have hln : (uBytes v ++ sBytes (txt s)).length ≤ 1048576 := by rw [sBytes_txt]; simp only [List.length_append]; omega
  have HSP := hd (show spellL v s = frameL 1 (uBytes v ++ sBytes (txt s)) by rw [sBytes_txt]; rfl)
  have hs1 := add_txt' (uBytes v) (sBytes (txt s)) (by rw [List.length_append] at hln; omega)
  have HF := hd (fun W => refFrame_any (uBytes v ++ sBytes (txt s)) W hln)
  have HS := hd (fun W => refS_any (txt s) W (by rw [txt_size]; omega))
  generalize sBytes (txt s) = sb at *
  clear hv hln
  go_enter Try.func32, Try.ntmps32
  go_wp2_with fail
  refine (refU_any v w HV.out).mono ?_
  rintro x w1 ⟨rfl, hu1⟩
  go_wp2_with fail
  refine (HS.out w1).mono ?_
  rintro x w2 ⟨rfl, hu2⟩
  go_wp2_with fail
  refine (HF.out w2).mono ?_
  rintro x w3 ⟨rfl, hu3⟩
  go_wp2_with fail
  go_ret
  rw [HSP.out]
  exact ⟨rfl, (hu1.trans hu2).trans hu3⟩
end Go.Proofs.Ytjaoiaknglnomaa
