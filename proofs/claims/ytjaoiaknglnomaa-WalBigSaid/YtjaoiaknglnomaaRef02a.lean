/-
  chatelaineref02.Digits and Sum, walked: they answer as seal's. Condition: the sizes that each theorem states.
-/
import Derived.Test.YtjaoiaknglnomaaTwin6
set_option linter.unusedVariables false
set_option linter.unusedSimpArgs false
set_option maxRecDepth 100000
namespace Go.Proofs.Ytjaoiaknglnomaa
open Go.RowKit

/-- One bit of the reference's sum meets one of the program's. -/
theorem ref_step (C N : Nat) : ((if C % 2 = N % 2 then C / 2 else (C / 2) ^^^ polyN) ^^^ (N / 2)) = crcStep (C ^^^ N) := by
  have hd2 : (C ^^^ N) / 2 = C / 2 ^^^ N / 2 := by
    have := Nat.xor_div_two_pow (a := C) (b := N) (n := 1)
    simpa using this
  have hm : (C ^^^ N) % 2 = 1 ↔ ¬ (C % 2 = N % 2) := by
    rw [Nat.xor_mod_two_eq_one]
    omega
  unfold crcStep
  by_cases h : C % 2 = N % 2
  · rw [if_pos h, if_neg (fun x => hm.1 x h), hd2]
  · rw [if_neg h, if_pos (hm.2 h), hd2]
    rw [Nat.xor_assoc, Nat.xor_assoc, Nat.xor_comm polyN]

set_option maxHeartbeats 1000000 in
theorem refDigits_any (x n : Nat) (w : World) (hx : x < 4294967296) (hn : n ≤ 8) :
    Calls Try.prog 69 #[.int .u32 x, .int .i64 n] w fun e w' => e = .returned (.string (txt (wideOf x n))) ∧ Upd [] w w' := by
  go_enter Try.func69, Try.ntmps69
  go_wp2_with fail
  go_loopw [0, 5, 6] (fun y s i wr => ∃ j : Nat, j ≤ n ∧ i = .int .i64 j ∧ y = .int .u32 ((x / 256 ^ j : Nat) : Int) ∧ s = .string (txt (wideOf x j)) ∧ Upd [] w wr) (fun _ _ i _ => n - (intOf i).toNat)
  case atStart => exact ⟨0, Nat.zero_le _, rfl, by simp, rfl, Upd.refl _ _⟩
  case round =>
    obtain ⟨j, hj, rfl, rfl, rfl, hu⟩ := hrel
    have HU := hd hu
    clear hu
    by_cases hjn : j < n
    · have hy : x / 256 ^ j < 4294967296 := Nat.lt_of_le_of_lt (Nat.div_le_self _ _) hx
      have hdiv := hd (show (((x / 256 ^ j : Nat) : Int) / 256) = ((x / 256 ^ (j + 1) : Nat) : Int) by rw [Nat.pow_succ, ← Nat.div_div_eq_div_mul]; simp)
      generalize hye : x / 256 ^ j = y at *
      have hs : ∀ W : World, (Op.stringOp .add (txt [UInt8.ofNat y]) (txt (wideOf x j))).run Try.prog W = .ok (.string (txt (UInt8.ofNat y :: wideOf x j))) W := fun W => by
        rw [run_string_add_sum _ _ _ (by simp [wideOf_length]; omega), txt_append]; rfl
      go_wp2_with (refine wpList_conv_string rfl 47 9 5 (.tmp 15) rfl wr.heap.size 0 1 1 (txt [UInt8.ofNat y]) rfl Try.underlying47 Try.underlying5 Try.underlying9 (by simp) (fun i hi => by
        obtain rfl : i = 0 := by simpa using hi
        simp [txt]) ?_)
      refine ⟨⟨j + 1, by omega, by go_num, by rw [hdiv.out], by rw [← hye]; rfl, HU.out.alloc _⟩, by simp [intOf]; omega⟩
    · go_wp2_with fail
      go_ret
      obtain rfl : j = n := by omega
      exact ⟨rfl, HU.out⟩

set_option maxHeartbeats 2000000 in
theorem refSum_any (l : List UInt8) (w : World) (hl : l.length ≤ 1099511627776) :
    Calls Try.prog 70 #[.string (txt l)] w fun x w' => x = .returned (.int .u32 (sumN l : Nat)) ∧ w = w' := by
  have HS := hd (show sumN l = 4294967295 - l.foldl moreN 4294967295 from rfl)
  go_enter Try.func70, Try.ntmps70
  go_wp2_with fail
  go_loop [3, 4] (fun v i => ∃ j : Nat, j ≤ l.length ∧ i = .int .i64 j ∧ v = .int .u32 ((l.take j).foldl moreN 4294967295 : Nat)) (fun _ i => l.length - (intOf i).toNat)
  case atStart => exact ⟨0, Nat.zero_le _, rfl, rfl⟩
  case round =>
    obtain ⟨j, hj, rfl, rfl⟩ := hrel
    by_cases hjl : j < l.length
    · have hjl' : (j : Int) < (l.length : Int) := by omega
      have hsz : j < (txt l).size := by simpa using hjl
      have hat := txt_at l j hjl hsz
      have HN := hd (show (l.take (j + 1)).foldl moreN 4294967295 = crcSteps ((l.take j).foldl moreN 4294967295 ^^^ l[j].toNat) 8 by rw [List.take_succ_eq_append_getElem hjl, List.foldl_append]; rfl)
      have HML := hd (foldMore_lt (l.take j) 4294967295 (by omega))
      have HB := hd (show l[j].toNat < 256 from l[j].toNat_lt)
      generalize (l.take j).foldl moreN 4294967295 = C0 at *
      generalize hb0 : l[j].toNat = N0 at *
      go_wp2_with fail
      go_loop [3, 5, 6] (fun c b i => ∃ k C : Nat, k ≤ 8 ∧ C < 4294967296 ∧ i = .int .i64 k ∧ c = .int .u32 (C : Nat) ∧ b = .int .u8 ((N0 / 2 ^ k : Nat) : Int) ∧ C ^^^ (N0 / 2 ^ k) = crcSteps (C0 ^^^ N0) k) (fun _ _ i => 8 - (intOf i).toNat)
      case atStart => exact ⟨0, C0, by omega, HML.out, rfl, rfl, by simp, by simp [crcSteps]⟩
      case round =>
        obtain ⟨k, C, hk, hC, rfl, rfl, rfl, hq⟩ := hrel
        by_cases hk8 : k < 8
        · have hst := ref_step C (N0 / 2 ^ k)
          rw [hq] at hst
          have hN : N0 / 2 ^ k < 256 := Nat.lt_of_le_of_lt (Nat.div_le_self _ _) HB.out
          have hNn := hd (show N0 / 2 ^ k / 2 = N0 / 2 ^ (k + 1) by rw [Nat.pow_succ, Nat.div_div_eq_div_mul])
          have HST := hd hst
          clear hst hq
          generalize N0 / 2 ^ k = N at *
          by_cases hcn : C % 2 = N % 2
          · have hcn' : ((C : Int) % 2 != (N : Int) % 2) = false := by
              have : (C : Int) % 2 = (N : Int) % 2 := by omega
              simp [this]
            have HE := hd hcn
            clear hcn
            go_wp2_with fail
            go_round
            case rel =>
              refine ⟨k + 1, C / 2, by omega, by omega, by go_num, congrArg _ (by omega), by rw [← hNn.out]; exact congrArg _ (by omega), ?_⟩
              have := HST.out
              rw [if_pos HE.out, hNn.out] at this
              exact this
            case measure => simp [intOf]; omega
          · have hcn' : ((C : Int) % 2 != (N : Int) % 2) = true := by
              have : ¬ (C : Int) % 2 = (N : Int) % 2 := by omega
              simpa using this
            have hp : bits .xor .u32 ((C : Int) / 2) 3988292384 = (((C / 2) ^^^ polyN : Nat) : Int) := by
              have := u32_xor (C / 2) polyN (by omega) (by unfold polyN; omega)
              rw [← this]
              rfl
            have hpl : (C / 2) ^^^ polyN < 4294967296 := Nat.xor_lt_two_pow (n := 32) (by omega) (by unfold polyN; omega)
            have HPL := hd hpl
            have HE := hd hcn
            clear hcn hpl
            go_wp2_with fail
            go_round
            case rel =>
              refine ⟨k + 1, (C / 2) ^^^ polyN, by omega, HPL.out, by go_num, rfl, by rw [← hNn.out]; exact congrArg _ (by omega), ?_⟩
              have := HST.out
              rw [if_neg HE.out, hNn.out] at this
              exact this
            case measure => simp [intOf]; omega
        · obtain rfl : k = 8 := by omega
          have HQ := hd (show C = crcSteps (C0 ^^^ N0) 8 by
            have h0 : N0 / 2 ^ 8 = 0 := Nat.div_eq_of_lt HB.out
            rw [h0, Nat.xor_zero] at hq
            exact hq)
          clear hq
          go_wp2_with fail
          go_round
          case rel => exact ⟨j + 1, by omega, by go_num, by rw [HN.out, HQ.out]⟩
          case measure => simp [intOf]; omega
    · obtain rfl : j = l.length := by omega
      rw [List.take_length]
      have HML := hd (foldMore_lt l 4294967295 (by omega))
      generalize l.foldl moreN 4294967295 = C at *
      have hlt := HML.out
      go_wp2_with fail
      go_ret
      rw [HS.out]
      exact ⟨congrArg (fun z => Ending.returned (Value.int .u32 z)) (by omega), rfl⟩
end Go.Proofs.Ytjaoiaknglnomaa
