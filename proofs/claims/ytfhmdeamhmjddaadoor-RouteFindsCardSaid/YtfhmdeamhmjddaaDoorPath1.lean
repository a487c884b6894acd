/-
  path.good, part, Made and the document's part, Made, walked. Conditions: texts of sizes that there are.
-/
import Derived.Test.YtfhmdeamhmjddaaDoorShelf05
import Derived.Deep.DeepCutAuto
set_option linter.unusedVariables false
set_option linter.unusedSimpArgs false
set_option maxRecDepth 100000
namespace Go.Proofs.YtfhmdeamhmjddaaDoor
open Go.RowKit

set_option maxHeartbeats 4000000 in
theorem pgood_any (n : Nat) (w : World) : Calls Tryd.prog 65 #[.int .u8 n] w fun e w' => e = .returned (.bool (goodN n)) ∧ w = w' := by
  obtain ⟨b, hb⟩ : ∃ b, b = goodN n := ⟨_, rfl⟩
  rw [← hb]
  have HB := hd hb
  clear hb
  go_enter Tryd.func65, Tryd.ntmps65
  rcases (by omega : n = 45 ∨ (n < 48 ∧ n ≠ 45) ∨ (48 ≤ n ∧ n ≤ 57) ∨ (57 < n ∧ n < 97 ∧ n ≠ 95) ∨ n = 95 ∨ (97 ≤ n ∧ n ≤ 122) ∨ 122 < n) with rfl | ⟨h1, h2⟩ | ⟨h1, h2⟩ | ⟨h1, h2, h3⟩ | rfl | ⟨h1, h2⟩ | h1
  · obtain rfl : b = true := by rw [HB.out]; decide
    clear HB
    go_wp2_with fail
    go_ret
    exact ⟨rfl, rfl⟩
  · obtain rfl : b = false := by rw [HB.out]; simp [goodN]; omega
    clear HB
    have e1 : ¬ (97 : Int) ≤ (n : Int) := by omega
    have e2 : ¬ (48 : Int) ≤ (n : Int) := by omega
    have e3 : ((n : Int) == 45) = false := by simp; omega
    have e4 : ((n : Int) == 95) = false := by simp; omega
    go_wp2_with fail
    go_ret
    exact ⟨rfl, rfl⟩
  · obtain rfl : b = true := by rw [HB.out]; simp [goodN]; omega
    clear HB
    have e1 : ¬ (97 : Int) ≤ (n : Int) := by omega
    have e2 : (48 : Int) ≤ (n : Int) := by omega
    have e3 : (n : Int) ≤ 57 := by omega
    go_wp2_with fail
    go_ret
    exact ⟨rfl, rfl⟩
  · obtain rfl : b = false := by rw [HB.out]; simp [goodN]; omega
    clear HB
    have e1 : ¬ (97 : Int) ≤ (n : Int) := by omega
    have e2 : (48 : Int) ≤ (n : Int) := by omega
    have e3 : ¬ (n : Int) ≤ 57 := by omega
    have e5 : ((n : Int) == 45) = false := by simp; omega
    have e4 : ((n : Int) == 95) = false := by simp; omega
    go_wp2_with fail
    go_ret
    exact ⟨rfl, rfl⟩
  · obtain rfl : b = true := by rw [HB.out]; decide
    clear HB
    go_wp2_with fail
    go_ret
    exact ⟨rfl, rfl⟩
  · obtain rfl : b = true := by rw [HB.out]; simp [goodN]; omega
    clear HB
    have e1 : (97 : Int) ≤ (n : Int) := by omega
    have e2 : (n : Int) ≤ 122 := by omega
    go_wp2_with fail
    go_ret
    exact ⟨rfl, rfl⟩
  · obtain rfl : b = false := by rw [HB.out]; simp [goodN]; omega
    clear HB
    have e1 : (97 : Int) ≤ (n : Int) := by omega
    have e2 : ¬ (n : Int) ≤ 122 := by omega
    have e6 : (48 : Int) ≤ (n : Int) := by omega
    have e3 : ¬ (n : Int) ≤ 57 := by omega
    have e5 : ((n : Int) == 45) = false := by simp; omega
    have e4 : ((n : Int) == 95) = false := by simp; omega
    go_wp2_with fail
    go_ret
    exact ⟨rfl, rfl⟩

theorem all_take {s : List UInt8} {p : UInt8 → Bool} {t : Nat} (h : t < s.length) : (s.take (t + 1)).all p = ((s.take t).all p && p s[t]) := by
  rw [List.take_succ_eq_append_getElem h, List.all_append]
  simp
set_option maxHeartbeats 4000000 in
theorem ppart_any (s : List UInt8) (w : World) (hs : s.length ≤ 9223372036854775807) : Calls Tryd.prog 51 #[.string (txt s)] w fun e w' => e = .returned (.bool (partL s)) ∧ w = w' := by
  go_enter Tryd.func51, Tryd.ntmps51
  go_wp2_with fail
  go_loopw [6] (fun c wr => ∃ t : Nat, c = .int .i64 t ∧ t ≤ s.length ∧ (s.take t).all (fun c => goodN c.toNat) = true ∧ w = wr) (fun c _ => s.length - (intOf c).toNat)
  case atStart => exact ⟨0, rfl, by omega, rfl, rfl⟩
  case round =>
    obtain ⟨t, rfl, ht, hall, rfl⟩ := hrel
    by_cases htn : t < s.length
    · have htn' : (t : Int) < (s.length : Int) := by omega
      have hsz : t < (txt s).size := by rw [txt_size]; exact htn
      have hat : (txt s)[t]'hsz = s[t] := txt_at s t htn hsz
      have HA := hd (show (s.take (t + 1)).all (fun c => goodN c.toNat) = ((s.take t).all (fun c => goodN c.toNat) && goodN ((txt s)[t]'hsz).toNat) by rw [hat]; exact all_take htn)
      have hgd := pgood_any ((txt s)[t]'hsz).toNat
      have HG := hd hgd
      clear hgd hat
      generalize goodN ((txt s)[t]'hsz).toNat = g at *
      rcases g with _ | _
      · have HF := hd (show partL s = false by
          unfold partL
          have h1 : s.all (fun c => goodN c.toNat) = false := by
            rw [← List.take_append_drop (t + 1) s, List.all_append, HA.out]
            simp
          rw [h1]; rfl)
        go_wp2_with fail
        refine (HG.out _).mono ?_
        rintro e w1 ⟨rfl, rfl⟩
        go_wp2_with fail
        go_ret
        exact ⟨by rw [HF.out]; rfl, rfl⟩
      · rw [hall] at HA
        clear hall
        go_wp2_with fail
        refine (HG.out _).mono ?_
        rintro e w1 ⟨rfl, rfl⟩
        go_wp2_with fail
        go_roundw
        case rel => exact ⟨t + 1, by go_num, by omega, HA.out, by first | rfl | trivial⟩
        case measure => simp [intOf]; omega
    · rw [List.take_of_length_le (by omega)] at hall
      have HP := hd (show partL s = (decide (s ≠ []) && decide (s.length ≤ 16)) by unfold partL; rw [hall]; rfl)
      clear hall
      have hts : (txt s).toList = s := txt_list s
      by_cases he : s = []
      · subst he
        have hee : (txt []).toList.isEmpty = true := by rw [txt_list]; rfl
        go_wp2_with fail
        go_ret
        exact ⟨by rw [HP.out]; rfl, rfl⟩
      · have hee : (txt s).toList.isEmpty = false := by rw [txt_list]; simpa using he
        have HN := hd he
        clear he hts
        by_cases hl : s.length ≤ 16
        · have hl' : (s.length : Int) ≤ 16 := by omega
          have HL := hd hl
          go_wp2_with fail
          go_ret
          exact ⟨by rw [HP.out, decide_eq_true HN.out, decide_eq_true HL.out]; rfl, rfl⟩
        · have hl' : ¬ (s.length : Int) ≤ 16 := by omega
          have HL := hd hl
          go_wp2_with fail
          go_ret
          exact ⟨by rw [HP.out, decide_eq_true HN.out, decide_eq_false HL.out]; rfl, rfl⟩

set_option maxHeartbeats 4000000 in
theorem rpart_any (s : List UInt8) (w : World) (hs : s.length ≤ 9223372036854775807) : Calls Tryd.prog 52 #[.string (txt s)] w fun e w' => e = .returned (.bool (partL s)) ∧ w = w' := by
  go_enter Tryd.func52, Tryd.ntmps52
  go_wp2_with fail
  go_loopw [3] (fun c wr => ∃ t : Nat, c = .int .i64 t ∧ t ≤ s.length ∧ (s.take t).all (fun c => goodN c.toNat) = true ∧ w = wr) (fun c _ => s.length - (intOf c).toNat)
  case atStart => exact ⟨0, rfl, by omega, rfl, rfl⟩
  case round =>
    obtain ⟨t, rfl, ht, hall, rfl⟩ := hrel
    by_cases htn : t < s.length
    · have htn' : (t : Int) < (s.length : Int) := by omega
      have hsz : t < (txt s).size := by rw [txt_size]; exact htn
      have hat : (txt s)[t]'hsz = s[t] := txt_at s t htn hsz
      have HA := hd (show (s.take (t + 1)).all (fun c => goodN c.toNat) = ((s.take t).all (fun c => goodN c.toNat) && goodN ((txt s)[t]'hsz).toNat) by rw [hat]; exact all_take htn)
      have HALL := hd hall
      clear hat hall
      go_upto_region 5 with fail
      generalize ((txt s)[t]'hsz).toNat = n at *
      go_cut [36] (fun c wx => c = .bool (!goodN n) ∧ w = wx)
      case first =>
        rcases (by omega : n = 45 ∨ (n < 48 ∧ n ≠ 45) ∨ (48 ≤ n ∧ n ≤ 57) ∨ (57 < n ∧ n < 97 ∧ n ≠ 95) ∨ n = 95 ∨ (97 ≤ n ∧ n ≤ 122) ∨ 122 < n) with rfl | ⟨h1, h2⟩ | ⟨h1, h2⟩ | ⟨h1, h2, h3⟩ | rfl | ⟨h1, h2⟩ | h1
        · clear HA
          go_wp2_with fail
          go_meet
          case rel => exact ⟨rfl, rfl⟩
        · have HG := hd (show goodN n = false by simp [goodN]; omega)
          clear HA
          have e1 : ¬ (97 : Int) ≤ (n : Int) := by omega
          have e2 : ¬ (48 : Int) ≤ (n : Int) := by omega
          have e3 : ((n : Int) == 45) = false := by simp; omega
          have e4 : ((n : Int) == 95) = false := by simp; omega
          go_wp2_with fail
          go_meet
          case rel => exact ⟨by rw [HG.out]; rfl, rfl⟩
        · have HG := hd (show goodN n = true by simp [goodN]; omega)
          clear HA
          have e1 : ¬ (97 : Int) ≤ (n : Int) := by omega
          have e2 : (48 : Int) ≤ (n : Int) := by omega
          have e3 : (n : Int) ≤ 57 := by omega
          go_wp2_with fail
          go_meet
          case rel => exact ⟨by rw [HG.out]; rfl, rfl⟩
        · have HG := hd (show goodN n = false by simp [goodN]; omega)
          clear HA
          have e1 : ¬ (97 : Int) ≤ (n : Int) := by omega
          have e2 : (48 : Int) ≤ (n : Int) := by omega
          have e3 : ¬ (n : Int) ≤ 57 := by omega
          have e5 : ((n : Int) == 45) = false := by simp; omega
          have e4 : ((n : Int) == 95) = false := by simp; omega
          go_wp2_with fail
          go_meet
          case rel => exact ⟨by rw [HG.out]; rfl, rfl⟩
        · clear HA
          go_wp2_with fail
          go_meet
          case rel => exact ⟨rfl, rfl⟩
        · have HG := hd (show goodN n = true by simp [goodN]; omega)
          clear HA
          have e1 : (97 : Int) ≤ (n : Int) := by omega
          have e2 : (n : Int) ≤ 122 := by omega
          go_wp2_with fail
          go_meet
          case rel => exact ⟨by rw [HG.out]; rfl, rfl⟩
        · have HG := hd (show goodN n = false by simp [goodN]; omega)
          clear HA
          have e1 : (97 : Int) ≤ (n : Int) := by omega
          have e2 : ¬ (n : Int) ≤ 122 := by omega
          have e6 : (48 : Int) ≤ (n : Int) := by omega
          have e3 : ¬ (n : Int) ≤ 57 := by omega
          have e5 : ((n : Int) == 45) = false := by simp; omega
          have e4 : ((n : Int) == 95) = false := by simp; omega
          go_wp2_with fail
          go_meet
          case rel => exact ⟨by rw [HG.out]; rfl, rfl⟩
      case rest =>
        obtain ⟨rfl, rfl⟩ := hcut
        generalize goodN n = g at *
        rcases g with _ | _
        · have HF := hd (show partL s = false by
            unfold partL
            have h1 : s.all (fun c => goodN c.toNat) = false := by
              rw [← List.take_append_drop (t + 1) s, List.all_append, HA.out]
              simp
            rw [h1]; rfl)
          go_wp2_with fail
          go_ret
          exact ⟨by rw [HF.out]; rfl, rfl⟩
        · rw [HALL.out] at HA
          go_wp2_with fail
          go_roundw
          case rel => exact ⟨t + 1, by go_num, by omega, HA.out, by first | rfl | trivial⟩
          case measure => simp [intOf]; omega
    · rw [List.take_of_length_le (by omega)] at hall
      have HP := hd (show partL s = (decide (s ≠ []) && decide (s.length ≤ 16)) by unfold partL; rw [hall]; rfl)
      clear hall
      by_cases he : s = []
      · subst he
        go_wp2_with fail
        go_ret
        exact ⟨by rw [HP.out]; rfl, rfl⟩
      · have hlp : 0 < (s.length : Int) := by have := List.length_pos_iff.2 he; omega
        have HN := hd he
        clear he
        by_cases hl : s.length ≤ 16
        · have hl' : (s.length : Int) < 17 := by omega
          have HL := hd hl
          go_wp2_with fail
          go_ret
          exact ⟨by rw [HP.out, decide_eq_true HN.out, decide_eq_true HL.out]; rfl, rfl⟩
        · have hl' : ¬ (s.length : Int) < 17 := by omega
          have HL := hd hl
          go_wp2_with fail
          go_ret
          exact ⟨by rw [HP.out, decide_eq_true HN.out, decide_eq_false HL.out]; rfl, rfl⟩

/-- The error of what is no path. -/
def noPath : List (Int × List UInt8) := [(10, [112, 97, 116, 104]), (10, [])]
theorem pwrong_any (w : World) (hD : Door w) : Calls Tryd.prog 38 #[] w fun e w' => ∃ v, e = .returned v ∧ Upd [] w w' ∧ ErrAt w' v noPath := by
  have HD := hd hD
  clear hD
  go_enter Tryd.func38, Tryd.ntmps38
  go_wp2_with fail
  refine (fof_any 10 w (by decide)).mono ?_
  rintro e w1 ⟨v, rfl, hu1, hv1⟩
  have HF := hd (fwrap_any v 10 [] [] [112, 97, 116, 104] w1 (HD.out.later hu1) hv1)
  go_wp2_with fail
  refine HF.out.mono ?_
  rintro e w2 ⟨v2, rfl, hu2, hv2⟩
  go_wp2_with fail
  go_ret
  exact ⟨_, rfl, hu1.trans hu2, hv2⟩
end Go.Proofs.YtfhmdeamhmjddaaDoor
