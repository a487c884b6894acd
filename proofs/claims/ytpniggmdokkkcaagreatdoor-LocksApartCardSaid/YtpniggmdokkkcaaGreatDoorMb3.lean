/-
  The library's functions of strings, told of lists of bytes: Split, Count, CutPrefix, LastIndex at a slash. Condition: bytealg.MaxLen holds a number; texts of sizes that there are.
-/
import Derived.Test.YtpniggmdokkkcaaGreatDoorMb0
import Derived.Test.YtpniggmdokkkcaaGreatDoorMb1
import Derived.Test.YtpniggmdokkkcaaGreatDoorMb2
import Derived.Deep.DeepCutAuto
set_option linter.unusedVariables false
namespace Go.Proofs.YtpniggmdokkkcaaGreatDoor
open Go.RowKit Go.Lib
theorem txt_raw (s : List UInt8) : (txt s).data.toList = s := by simp [txt]
theorem lib_count (s : List UInt8) (w : World) : Calls Tryz.prog 91 #[.string (txt s), .string ⟨#[47]⟩] w fun e w' => e = .returned (.int .i64 ((s.count 47 : Nat) : Int)) ∧ w = w' :=
  (Tryz.strings_Count_one (txt s) 47 w).mono fun e w' ⟨he, hw⟩ => ⟨by rw [he, txt_raw]; rfl, hw.symm⟩
theorem lib_cut (s p : List UInt8) (w : World) : Calls Tryz.prog 64 #[.string (txt s), .string (txt p)] w fun e w' => e = .returned (.tuple #[.string (txt (if p.isPrefixOf s then s.drop p.length else s)), .bool (p.isPrefixOf s)]) ∧ w = w' :=
  (Tryz.strings_CutPrefix (txt s) (txt p) w).mono fun e w' ⟨he, hw⟩ => ⟨by rw [he, txt_raw, txt_raw]; rfl, hw.symm⟩
theorem lib_split (s : List UInt8) (w : World) (hD : Door w) (hs : s.length < 4294967281) : Calls Tryz.prog 66 #[.string (txt s), .string ⟨#[47]⟩] w fun e w' =>
    e = .returned (.slice (some ⟨w.heap.size, 0, none⟩) (splitL s).length (splitL s).length) ∧ Upd [] w w' ∧ Blk w' w.heap.size (strVals (splitL s)).toArray 9 := by
  obtain ⟨_, m, hm⟩ := hD
  refine (Tryz.strings_Split (txt s) ⟨#[47]⟩ m w (by simpa using hs) hm (by decide)).mono fun e w' ⟨he, hw⟩ => ?_
  rw [countB_txt, splitB_txt _ s rfl] at hw
  rw [countB_txt, ← splitL_length] at he
  subst hw
  refine ⟨he, (Upd.refl _ _).alloc _, ?_⟩
  have := Blk.new w (List.map Value.string (List.map txt (splitL s))).toArray 9
  simpa [strVals, List.map_map, Function.comp_def] using this
theorem lib_last (s : List UInt8) (w : World) (hs : s.length < 4611686018427387904) : Calls Tryz.prog 36 #[.string (txt s), .string ⟨#[47]⟩] w fun e w' => e = .returned (.int .i64 (Lib.lastIndexByte (txt s) 47)) ∧ w = w' :=
  (Tryz.strings_LastIndex_one (txt s) ⟨#[47]⟩ rfl (by simpa using hs) w).mono fun e w' ⟨he, hw⟩ => ⟨he, hw.symm⟩
end Go.Proofs.YtpniggmdokkkcaaGreatDoor

/-
  path.good, part, Made and the document's part, Made, walked. Conditions: texts of sizes that there are.
-/
set_option linter.unusedVariables false
set_option linter.unusedSimpArgs false
set_option maxRecDepth 100000
namespace Go.Proofs.YtpniggmdokkkcaaGreatDoor
open Go.RowKit

set_option maxHeartbeats 4000000 in
theorem pgood_any (n : Nat) (w : World) : Calls Tryz.prog 82 #[.int .u8 n] w fun e w' => e = .returned (.bool (goodN n)) ∧ w = w' := by
  obtain ⟨b, hb⟩ : ∃ b, b = goodN n := ⟨_, rfl⟩
  rw [← hb]
  have HB := hd hb
  clear hb
  go_enter Tryz.func82, Tryz.ntmps82
  rcases (by omega : n = 45 ∨ (n < 48 ∧ n ≠ 45) ∨ (48 ≤ n ∧ n ≤ 57) ∨ (57 < n ∧ n < 97 ∧ n ≠ 95) ∨ n = 95 ∨ (97 ≤ n ∧ n ≤ 122) ∨ 122 < n) with rfl | ⟨h1, h2⟩ | ⟨h1, h2⟩ | ⟨h1, h2, h3⟩ | rfl | ⟨h1, h2⟩ | h1
  · obtain rfl : b = true := by rw [HB.out]; decide
    clear HB
    go_wp2_with fail
    go_ret
    exact ⟨rfl, rfl⟩
  · obtain rfl : b = false := by rw [HB.out]; simp [goodN]; omega
    clear HB
    have e1 : ¬ (97 : Int) ≤ (n : Int) := by omega
    have e2 : ¬ (48 : Int) ≤ (n : Int) := by omega
    have e3 : ((n : Int) == 45) = false := by simp; omega
    have e4 : ((n : Int) == 95) = false := by simp; omega
    go_wp2_with fail
    go_ret
    exact ⟨rfl, rfl⟩
  · obtain rfl : b = true := by rw [HB.out]; simp [goodN]; omega
    clear HB
    have e1 : ¬ (97 : Int) ≤ (n : Int) := by omega
    have e2 : (48 : Int) ≤ (n : Int) := by omega
    have e3 : (n : Int) ≤ 57 := by omega
    go_wp2_with fail
    go_ret
    exact ⟨rfl, rfl⟩
  · obtain rfl : b = false := by rw [HB.out]; simp [goodN]; omega
    clear HB
    have e1 : ¬ (97 : Int) ≤ (n : Int) := by omega
    have e2 : (48 : Int) ≤ (n : Int) := by omega
    have e3 : ¬ (n : Int) ≤ 57 := by omega
    have e5 : ((n : Int) == 45) = false := by simp; omega
    have e4 : ((n : Int) == 95) = false := by simp; omega
    go_wp2_with fail
    go_ret
    exact ⟨rfl, rfl⟩
  · obtain rfl : b = true := by rw [HB.out]; decide
    clear HB
    go_wp2_with fail
    go_ret
    exact ⟨rfl, rfl⟩
  · obtain rfl : b = true := by rw [HB.out]; simp [goodN]; omega
    clear HB
    have e1 : (97 : Int) ≤ (n : Int) := by omega
    have e2 : (n : Int) ≤ 122 := by omega
    go_wp2_with fail
    go_ret
    exact ⟨rfl, rfl⟩
  · obtain rfl : b = false := by rw [HB.out]; simp [goodN]; omega
    clear HB
    have e1 : (97 : Int) ≤ (n : Int) := by omega
    have e2 : ¬ (n : Int) ≤ 122 := by omega
    have e6 : (48 : Int) ≤ (n : Int) := by omega
    have e3 : ¬ (n : Int) ≤ 57 := by omega
    have e5 : ((n : Int) == 45) = false := by simp; omega
    have e4 : ((n : Int) == 95) = false := by simp; omega
    go_wp2_with fail
    go_ret
    exact ⟨rfl, rfl⟩

theorem all_take {s : List UInt8} {p : UInt8 → Bool} {t : Nat} (h : t < s.length) : (s.take (t + 1)).all p = ((s.take t).all p && p s[t]) := by
  rw [List.take_succ_eq_append_getElem h, List.all_append]
  simp
set_option maxHeartbeats 4000000 in
theorem ppart_any (s : List UInt8) (w : World) (hs : s.length ≤ 9223372036854775807) : Calls Tryz.prog 69 #[.string (txt s)] w fun e w' => e = .returned (.bool (partL s)) ∧ w = w' := by
  go_enter Tryz.func69, Tryz.ntmps69
  go_wp2_with fail
  go_loopw [6] (fun c wr => ∃ t : Nat, c = .int .i64 t ∧ t ≤ s.length ∧ (s.take t).all (fun c => goodN c.toNat) = true ∧ w = wr) (fun c _ => s.length - (intOf c).toNat)
  case atStart => exact ⟨0, rfl, by omega, rfl, rfl⟩
  case round =>
    obtain ⟨t, rfl, ht, hall, rfl⟩ := hrel
    by_cases htn : t < s.length
    · have htn' : (t : Int) < (s.length : Int) := by omega
      have hsz : t < (txt s).size := by rw [txt_size]; exact htn
      have hat : (txt s)[t]'hsz = s[t] := txt_at s t htn hsz
      have HA := hd (show (s.take (t + 1)).all (fun c => goodN c.toNat) = ((s.take t).all (fun c => goodN c.toNat) && goodN ((txt s)[t]'hsz).toNat) by rw [hat]; exact all_take htn)
      have hgd := pgood_any ((txt s)[t]'hsz).toNat
      have HG := hd hgd
      clear hgd hat
      generalize goodN ((txt s)[t]'hsz).toNat = g at *
      rcases g with _ | _
      · have HF := hd (show partL s = false by
          unfold partL
          have h1 : s.all (fun c => goodN c.toNat) = false := by
            rw [← List.take_append_drop (t + 1) s, List.all_append, HA.out]
            simp
          rw [h1]; rfl)
        go_wp2_with fail
        refine (HG.out _).mono ?_
        rintro e w1 ⟨rfl, rfl⟩
        go_wp2_with fail
        go_ret
        exact ⟨by rw [HF.out]; rfl, rfl⟩
      · rw [hall] at HA
        clear hall
        go_wp2_with fail
        refine (HG.out _).mono ?_
        rintro e w1 ⟨rfl, rfl⟩
        go_wp2_with fail
        go_roundw
        case rel => exact ⟨t + 1, by go_num, by omega, HA.out, by first | rfl | trivial⟩
        case measure => simp [intOf]; omega
    · rw [List.take_of_length_le (by omega)] at hall
      have HP := hd (show partL s = (decide (s ≠ []) && decide (s.length ≤ 16)) by unfold partL; rw [hall]; rfl)
      clear hall
      have hts : (txt s).toList = s := txt_list s
      by_cases he : s = []
      · subst he
        have hee : (txt []).toList.isEmpty = true := by rw [txt_list]; rfl
        go_wp2_with fail
        go_ret
        exact ⟨by rw [HP.out]; rfl, rfl⟩
      · have hee : (txt s).toList.isEmpty = false := by rw [txt_list]; simpa using he
        have HN := hd he
        clear he hts
        by_cases hl : s.length ≤ 16
        · have hl' : (s.length : Int) ≤ 16 := by omega
          have HL := hd hl
          go_wp2_with fail
          go_ret
          exact ⟨by rw [HP.out, decide_eq_true HN.out, decide_eq_true HL.out]; rfl, rfl⟩
        · have hl' : ¬ (s.length : Int) ≤ 16 := by omega
          have HL := hd hl
          go_wp2_with fail
          go_ret
          exact ⟨by rw [HP.out, decide_eq_true HN.out, decide_eq_false HL.out]; rfl, rfl⟩

set_option maxHeartbeats 4000000 in
theorem rpart_any (s : List UInt8) (w : World) (hs : s.length ≤ 9223372036854775807) : Calls Tryz.prog 68 #[.string (txt s)] w fun e w' => e = .returned (.bool (partL s)) ∧ w = w' := by
  go_enter Tryz.func68, Tryz.ntmps68
  go_wp2_with fail
  go_loopw [3] (fun c wr => ∃ t : Nat, c = .int .i64 t ∧ t ≤ s.length ∧ (s.take t).all (fun c => goodN c.toNat) = true ∧ w = wr) (fun c _ => s.length - (intOf c).toNat)
  case atStart => exact ⟨0, rfl, by omega, rfl, rfl⟩
  case round =>
    obtain ⟨t, rfl, ht, hall, rfl⟩ := hrel
    by_cases htn : t < s.length
    · have htn' : (t : Int) < (s.length : Int) := by omega
      have hsz : t < (txt s).size := by rw [txt_size]; exact htn
      have hat : (txt s)[t]'hsz = s[t] := txt_at s t htn hsz
      have HA := hd (show (s.take (t + 1)).all (fun c => goodN c.toNat) = ((s.take t).all (fun c => goodN c.toNat) && goodN ((txt s)[t]'hsz).toNat) by rw [hat]; exact all_take htn)
      have HALL := hd hall
      clear hat hall
      go_upto_region 5 with fail
      generalize ((txt s)[t]'hsz).toNat = n at *
      go_cut [36] (fun c wx => c = .bool (!goodN n) ∧ w = wx)
      case first =>
        rcases (by omega : n = 45 ∨ (n < 48 ∧ n ≠ 45) ∨ (48 ≤ n ∧ n ≤ 57) ∨ (57 < n ∧ n < 97 ∧ n ≠ 95) ∨ n = 95 ∨ (97 ≤ n ∧ n ≤ 122) ∨ 122 < n) with rfl | ⟨h1, h2⟩ | ⟨h1, h2⟩ | ⟨h1, h2, h3⟩ | rfl | ⟨h1, h2⟩ | h1
        · clear HA
          go_wp2_with fail
          go_meet
          case rel => exact ⟨rfl, rfl⟩
        · have HG := hd (show goodN n = false by simp [goodN]; omega)
          clear HA
          have e1 : ¬ (97 : Int) ≤ (n : Int) := by omega
          have e2 : ¬ (48 : Int) ≤ (n : Int) := by omega
          have e3 : ((n : Int) == 45) = false := by simp; omega
          have e4 : ((n : Int) == 95) = false := by simp; omega
          go_wp2_with fail
          go_meet
          case rel => exact ⟨by rw [HG.out]; rfl, rfl⟩
        · have HG := hd (show goodN n = true by simp [goodN]; omega)
          clear HA
          have e1 : ¬ (97 : Int) ≤ (n : Int) := by omega
          have e2 : (48 : Int) ≤ (n : Int) := by omega
          have e3 : (n : Int) ≤ 57 := by omega
          go_wp2_with fail
          go_meet
          case rel => exact ⟨by rw [HG.out]; rfl, rfl⟩
        · have HG := hd (show goodN n = false by simp [goodN]; omega)
          clear HA
          have e1 : ¬ (97 : Int) ≤ (n : Int) := by omega
          have e2 : (48 : Int) ≤ (n : Int) := by omega
          have e3 : ¬ (n : Int) ≤ 57 := by omega
          have e5 : ((n : Int) == 45) = false := by simp; omega
          have e4 : ((n : Int) == 95) = false := by simp; omega
          go_wp2_with fail
          go_meet
          case rel => exact ⟨by rw [HG.out]; rfl, rfl⟩
        · clear HA
          go_wp2_with fail
          go_meet
          case rel => exact ⟨rfl, rfl⟩
        · have HG := hd (show goodN n = true by simp [goodN]; omega)
          clear HA
          have e1 : (97 : Int) ≤ (n : Int) := by omega
          have e2 : (n : Int) ≤ 122 := by omega
          go_wp2_with fail
          go_meet
          case rel => exact ⟨by rw [HG.out]; rfl, rfl⟩
        · have HG := hd (show goodN n = false by simp [goodN]; omega)
          clear HA
          have e1 : (97 : Int) ≤ (n : Int) := by omega
          have e2 : ¬ (n : Int) ≤ 122 := by omega
          have e6 : (48 : Int) ≤ (n : Int) := by omega
          have e3 : ¬ (n : Int) ≤ 57 := by omega
          have e5 : ((n : Int) == 45) = false := by simp; omega
          have e4 : ((n : Int) == 95) = false := by simp; omega
          go_wp2_with fail
          go_meet
          case rel => exact ⟨by rw [HG.out]; rfl, rfl⟩
      case rest =>
        obtain ⟨rfl, rfl⟩ := hcut
        generalize goodN n = g at *
        rcases g with _ | _
        · have HF := hd (show partL s = false by
            unfold partL
            have h1 : s.all (fun c => goodN c.toNat) = false := by
              rw [← List.take_append_drop (t + 1) s, List.all_append, HA.out]
              simp
            rw [h1]; rfl)
          go_wp2_with fail
          go_ret
          exact ⟨by rw [HF.out]; rfl, rfl⟩
        · rw [HALL.out] at HA
          go_wp2_with fail
          go_roundw
          case rel => exact ⟨t + 1, by go_num, by omega, HA.out, by first | rfl | trivial⟩
          case measure => simp [intOf]; omega
    · rw [List.take_of_length_le (by omega)] at hall
      have HP := hd (show partL s = (decide (s ≠ []) && decide (s.length ≤ 16)) by unfold partL; rw [hall]; rfl)
      clear hall
      by_cases he : s = []
      · subst he
        go_wp2_with fail
        go_ret
        exact ⟨by rw [HP.out]; rfl, rfl⟩
      · have hlp : 0 < (s.length : Int) := by have := List.length_pos_iff.2 he; omega
        have HN := hd he
        clear he
        by_cases hl : s.length ≤ 16
        · have hl' : (s.length : Int) < 17 := by omega
          have HL := hd hl
          go_wp2_with fail
          go_ret
          exact ⟨by rw [HP.out, decide_eq_true HN.out, decide_eq_true HL.out]; rfl, rfl⟩
        · have hl' : ¬ (s.length : Int) < 17 := by omega
          have HL := hd hl
          go_wp2_with fail
          go_ret
          exact ⟨by rw [HP.out, decide_eq_true HN.out, decide_eq_false HL.out]; rfl, rfl⟩

/-- The error of what is no path. -/
def noPath : List (Int × List UInt8) := [(10, [112, 97, 116, 104]), (10, [])]
theorem pwrong_any (w : World) (hD : Door w) : Calls Tryz.prog 65 #[] w fun e w' => ∃ v, e = .returned v ∧ Upd [] w w' ∧ ErrAt w' v noPath := by
  have HD := hd hD
  clear hD
  go_enter Tryz.func65, Tryz.ntmps65
  go_wp2_with fail
  refine (fof_any 10 w (by decide)).mono ?_
  rintro e w1 ⟨v, rfl, hu1, hv1⟩
  have HF := hd (fwrap_any v 10 [] [] [112, 97, 116, 104] w1 (HD.out.later hu1) hv1)
  go_wp2_with fail
  refine HF.out.mono ?_
  rintro e w2 ⟨v2, rfl, hu2, hv2⟩
  go_wp2_with fail
  go_ret
  exact ⟨_, rfl, hu1.trans hu2, hv2⟩
end Go.Proofs.YtpniggmdokkkcaaGreatDoor

/-
  path.Made, Parse, Text, Parts, Depth, walked. Conditions: texts of sizes that there are; the library's variables hold what they are laid to hold.
-/
set_option linter.unusedVariables false
set_option linter.unusedSimpArgs false
set_option maxRecDepth 100000
namespace Go.Proofs.YtpniggmdokkkcaaGreatDoor
open Go.RowKit

theorem text_app (a b : List (List UInt8)) : textL (a ++ b) = textL a ++ textL b := by
  induction a with
  | nil => rfl
  | cons x a ih => simp [textL, ih]
theorem text_small {l : List (List UInt8)} (h : ∀ x ∈ l, x.length ≤ 16) : (textL l).length ≤ 17 * l.length := by
  induction l with
  | nil => simp [textL]
  | cons x l ih =>
    have h1 := h x (by simp)
    have h2 := ih (fun y hy => h y (by simp [hy]))
    simp only [textL, List.cons_append, List.length_cons, List.length_append]
    omega
theorem part_short {x : List UInt8} (h : partL x = true) : x.length ≤ 16 ∧ x ≠ [] ∧ (47 : UInt8) ∉ x := by
  unfold partL at h
  simp only [Bool.and_eq_true, decide_eq_true_eq] at h
  obtain ⟨h1, h2, h3⟩ := h
  refine ⟨h3, h2, fun hm => ?_⟩
  have := List.all_eq_true.1 h1 47 hm
  exact absurd this (by decide)
theorem results_path (fn : Func) (hr : fn.results = #[.cell 2 40, .tmp 3]) (tmps : Array Value) (W : World) (k : Nat) (x : Value) (ht : tmps[2]? = some (.pointer (some ⟨k, 0, none⟩))) (h : Blk W k #[x] 40) :
    (results fn tmps).run Tryz.prog W = .ok (.tuple #[.agg #[x], tmps.getD 3 undef]) W := by
  have c0 := h.cell 0
  simp at c0
  have hl : (loadVar 40 ⟨k, 0, none⟩).run Tryz.prog W = .ok (.agg #[x]) W := by
    go_simp
  simp [results, hr, ht, asAddr, hl]
def made5 (l : List (List UInt8)) : Option (List (List UInt8)) := if madeL l then some l else none
/-- What Made and Parse answer. -/
def Answer (w : World) (v ev : Value) (o : Option (List (List UInt8))) : Prop :=
  match o with
  | some l => v = .agg #[.string (txt (textL l))] ∧ ev = .nilIface
  | none => v = .agg #[.string (txt [])] ∧ ErrAt w ev noPath

set_option maxHeartbeats 4000000 in
theorem pmade_any (l : List (List UInt8)) (v : Value) (w : World) (hD : Door w) (hv : TxsAt w v l) (hl : ∀ x ∈ l, x.length ≤ 9223372036854775807) :
    Calls Tryz.prog 43 #[v] w fun e w' => ∃ p ev, e = .returned (.tuple #[p, ev]) ∧ Upd [] w w' ∧ Answer w' p ev (made5 l) := by
  have HD := hd hD
  have HV := hd hv
  have HW := hd (fun W (h : Door W) => pwrong_any W h)
  obtain ⟨a, c, rfl, hc, hm, -⟩ := hv
  have hb0 := Blk.new w #[.string ⟨#[]⟩] 40
  have e0 : ∃ W k, w.heap.size = k ∧ w.alloc (.cells #[.string ⟨#[]⟩] 40) = W ∧ Upd [] w W ∧ Blk W k #[.string ⟨#[]⟩] 40 := ⟨_, _, rfl, rfl, (Upd.refl _ _).alloc _, hb0⟩
  clear hD hb0
  go_enter Tryz.func43, Tryz.ntmps43
  go_upto_region 1 with fail
  obtain ⟨W0, k, hk, hW0, hu0, hb0⟩ := e0
  rw [hW0, hk]
  have HK := hd hk
  have HU0 := hd hu0
  have HB0 := hd hb0
  clear hW0 hk hu0 hb0
  by_cases h6 : 6 < l.length
  · have h6' : (6 : Int) < (l.length : Int) := by omega
    have HM := hd (show made5 l = none by unfold made5 madeL; rw [show decide (l.length ≤ 6) = false by simpa using h6]; simp)
    go_wp2_with fail
    refine (HW.out _ (HD.out.later HU0.out)).mono ?_
    rintro e w1 ⟨ev, rfl, hu1, hev⟩
    have hb1 := HB0.out.upd hu1 (by simp)
    have hbz := hb1.frozen
    have hbc := hb1.cell
    have HB2 := hd (hb1.set 0 (.string ⟨#[]⟩))
    have HU1 := hd hu1
    have HEV := hd hev
    have HKL := hd (show w.heap.size ≤ k by have := HK.out; omega)
    have hne := hb1
    have hu2 : Upd [k] w1 (w1.setCell ⟨k, 0, none⟩ (.string ⟨#[]⟩)) := (Upd.refl _ _).setCell (by simp) _
    have HU2 := hd hu2
    have HB1 := hd hb1
    clear hb1 hu1 hev hu2 hne
    go_wp2_with fail
    refine bodyPost_ret (results_path _ rfl _ _ k _ rfl HB2.out) rfl ?_
    refine ⟨_, _, rfl, (HU0.out.trans HU1.out).trans' HU2.out (by intro i hi; have := HKL.out; simp only [List.mem_cons, List.not_mem_nil, or_false] at hi; omega), ?_⟩
    rw [HM.out]
    exact ⟨rfl, HEV.out.keep HU2.out (fun q c hb hm => by
      simp only [List.mem_cons, List.not_mem_nil, or_false] at hm
      exact blk_ne hb HB1.out (by decide) hm)⟩
  · have h6' : ¬ (6 : Int) < (l.length : Int) := by omega
    have HKL := hd (show w.heap.size ≤ k by have := HK.out; omega)
    go_wp2_with fail
    go_loopw [4, 14] (fun s4 s14 wr => ∃ t : Nat, s14 = .int .i64 t ∧ t ≤ l.length ∧ s4 = .string (txt (textL (l.take t))) ∧ (∀ x ∈ l.take t, partL x = true) ∧ Upd [] w wr ∧ Upd [] W0 wr) (fun _ s14 _ => l.length - (intOf s14).toNat)
    case atStart => exact ⟨0, rfl, by omega, rfl, by simp, HU0.out, Upd.refl _ _⟩
    case round =>
      obtain ⟨t, rfl, ht, rfl, hall, hu, huv⟩ := hrel
      have HU := hd hu
      have HUV := hd huv
      have HALL := hd hall
      clear hu huv hall
      by_cases htn : t < l.length
      · have htn' : (t : Int) < (l.length : Int) := by omega
        obtain ⟨a', c', e, q1, q2, q3⟩ := HV.out
        simp only [Value.slice.injEq] at e
        obtain ⟨rfl, -, rfl⟩ := e
        obtain ⟨kl, ol, rfl, hkl, hcl⟩ := q3 (by omega)
        have hc0 : wr.cell? ⟨kl, ol + t, none⟩ = some (.string (txt l[t])) := by rw [← hcl t htn]; exact World.cell?_of_block (HU.out.block kl hkl (by simp))
        have hx := hl l[t] (List.getElem_mem _)
        have HP := hd (fun W => ppart_any l[t] W hx)
        have HT := hd (show textL (l.take (t + 1)) = textL (l.take t) ++ (47 :: l[t]) by rw [List.take_succ_eq_append_getElem htn, text_app]; simp [textL])
        have HIN := hd (show ∀ y ∈ l.take (t + 1), y ∈ l.take t ∨ y = l[t] by
          intro y hy
          rw [List.take_succ_eq_append_getElem htn] at hy
          rcases List.mem_append.1 hy with h | h
          · exact .inl h
          · exact .inr (List.mem_singleton.1 h))
        have HMF := hd (show partL l[t] = false → made5 l = none from fun h => by
          unfold made5 madeL
          have : l.all partL = false := List.all_eq_false.2 ⟨l[t], List.getElem_mem _, by rw [h]; decide⟩
          rw [this]; rfl)
        have hsm := text_small (l := l.take t) (fun x hx => (part_short (HALL.out x hx)).1)
        rw [List.length_take, Nat.min_eq_left ht] at hsm
        clear hcl q3
        generalize textL (l.take t) = T0 at *
        generalize l[t] = x at *
        rcases hp : partL x with _ | _
        · rw [hp] at HP
          have HM := hd (HMF.out hp)
          clear hp HMF
          go_wp2_with fail
          refine (HP.out _).mono ?_
          rintro e w1 ⟨rfl, rfl⟩
          go_wp2_with fail
          refine (HW.out _ (HD.out.later HU.out)).mono ?_
          rintro e w1 ⟨ev, rfl, hu1, hev⟩
          have hb1 := (HB0.out.upd HUV.out (by simp)).upd hu1 (by simp)
          have hbz := hb1.frozen
          have hbc := hb1.cell
          have HB2 := hd (hb1.set 0 (.string ⟨#[]⟩))
          have HU1 := hd hu1
          have HEV := hd hev
          have hu2 : Upd [k] w1 (w1.setCell ⟨k, 0, none⟩ (.string ⟨#[]⟩)) := (Upd.refl _ _).setCell (by simp) _
          have HU2 := hd hu2
          have HB1 := hd hb1
          clear hb1 hu1 hev hu2
          go_wp2_with fail
          refine bodyPost_ret (results_path _ rfl _ _ k _ rfl HB2.out) rfl ?_
          refine ⟨_, _, rfl, (HU.out.trans HU1.out).trans' HU2.out (by intro i hi; have := HKL.out; simp only [List.mem_cons, List.not_mem_nil, or_false] at hi; omega), ?_⟩
          rw [HM.out]
          exact ⟨rfl, HEV.out.keep HU2.out (fun q c hb hm => by
            simp only [List.mem_cons, List.not_mem_nil, or_false] at hm
            exact blk_ne hb HB1.out (by decide) hm)⟩
        · rw [hp] at HP
          have HPT := hd hp
          have hps := (part_short hp).1
          clear hp HMF
          have hs1 := add_txt' [47] x (by simp; omega)
          have hs2 := add_txt' T0 (47 :: x) (by simp; omega)
          rw [show txt [47] = ⟨#[47]⟩ from rfl, show [47] ++ x = 47 :: x from rfl] at hs1
          go_wp2_with fail
          refine (HP.out _).mono ?_
          rintro e w1 ⟨rfl, rfl⟩
          go_wp2_with fail
          go_roundw
          case rel => exact ⟨t + 1, by go_num, by omega, by rw [HT.out], fun y hy => (HIN.out y hy).elim (HALL.out y) (fun e => e ▸ HPT.out), HU.out, HUV.out⟩
          case measure => simp [intOf]; omega
      · have htl : l.take t = l := List.take_of_length_le (by omega)
        rw [htl] at HALL ⊢
        have HM := hd (show made5 l = some l by
          unfold made5 madeL
          rw [List.all_eq_true.2 HALL.out, show decide (l.length ≤ 6) = true by simp; omega]
          rfl)
        have hb1 := HB0.out.upd HUV.out (by simp)
        have hbz := hb1.frozen
        have hbc := hb1.cell
        have HB2 := hd (hb1.set 0 (.string (txt (textL l))))
        have hu2 : Upd [k] wr (wr.setCell ⟨k, 0, none⟩ (.string (txt (textL l)))) := (Upd.refl _ _).setCell (by simp) _
        have HU2 := hd hu2
        clear hb1 hu2 htl
        go_wp2_with fail
        refine bodyPost_ret (results_path _ rfl _ _ k _ rfl HB2.out) rfl ?_
        refine ⟨_, _, rfl, HU.out.trans' HU2.out (by intro i hi; have := HKL.out; simp only [List.mem_cons, List.not_mem_nil, or_false] at hi; omega), ?_⟩
        rw [HM.out]
        exact ⟨rfl, rfl⟩
end Go.Proofs.YtpniggmdokkkcaaGreatDoor

/-
  path.Parse, Text, Parts, Depth and the document's Made and Parse, walked. Conditions: texts of sizes that there are; the library's variables hold what they are laid to hold.
-/
set_option linter.unusedVariables false
set_option linter.unusedSimpArgs false
set_option maxRecDepth 100000
namespace Go.Proofs.YtpniggmdokkkcaaGreatDoor
open Go.RowKit

theorem lib_cut_yes (r : List UInt8) (w : World) : Calls Tryz.prog 64 #[.string (txt (47 :: r)), .string ⟨#[47]⟩] w fun e w' => e = .returned (.tuple #[.string (txt r), .bool true]) ∧ w = w' := by
  have h := lib_cut (47 :: r) [47] w
  rw [show ([47] : List UInt8).isPrefixOf (47 :: r) = true by simp [List.isPrefixOf]] at h
  exact h
theorem lib_cut_no (s : List UInt8) (w : World) (h47 : ∀ r, s ≠ 47 :: r) : Calls Tryz.prog 64 #[.string (txt s), .string ⟨#[47]⟩] w fun e w' => e = .returned (.tuple #[.string (txt s), .bool false]) ∧ w = w' := by
  have h := lib_cut s [47] w
  have hp : ([47] : List UInt8).isPrefixOf s = false := by
    cases s with
    | nil => rfl
    | cons c r =>
      have : c ≠ 47 := fun e => h47 r (by rw [e])
      simp [List.isPrefixOf]
      exact fun e => this e.symm
  rw [hp] at h
  exact h
theorem Answer.shape {w : World} {v ev : Value} {o : Option (List (List UInt8))} (h : Answer w v ev o) : ∃ T, v = .agg #[.string T] := by
  unfold Answer at h
  split at h
  · exact ⟨_, h.1⟩
  · exact ⟨_, h.1⟩
theorem Answer.later {w w' : World} {v ev : Value} {o : Option (List (List UInt8))} {Ls : List Nat} (h : Answer w v ev o) (hu : Upd Ls w w') (hn : ∀ k c, Blk w k c 140 → k ∉ Ls) : Answer w' v ev o := by
  unfold Answer at h ⊢
  split at h
  · exact h
  · exact ⟨h.1, h.2.keep hu hn⟩

set_option maxHeartbeats 4000000 in
theorem pparse_any (s : List UInt8) (w : World) (hD : Door w) (hs : s.length ≤ 1000000) :
    Calls Tryz.prog 38 #[.string (txt s)] w fun e w' => ∃ p ev, e = .returned (.tuple #[p, ev]) ∧ Upd [] w w' ∧ Answer w' p ev (parse5 s) := by
  have HD := hd hD
  have HW := hd (fun W (h : Door W) => pwrong_any W h)
  have hb0 := Blk.new w #[.string ⟨#[]⟩] 40
  have e0 : ∃ W k, w.heap.size = k ∧ w.alloc (.cells #[.string ⟨#[]⟩] 40) = W ∧ Upd [] w W ∧ Blk W k #[.string ⟨#[]⟩] 40 := ⟨_, _, rfl, rfl, (Upd.refl _ _).alloc _, hb0⟩
  clear hD hb0
  go_enter Tryz.func38, Tryz.ntmps38
  go_upto_region 1 with fail
  obtain ⟨W0, k, hk, hW0, hu0, hb0⟩ := e0
  rw [hW0, hk]
  have HKL := hd (show w.heap.size ≤ k by omega)
  have HU0 := hd hu0
  have HB0 := hd hb0
  clear hW0 hk hu0 hb0
  have KEY : ∀ (W1 W2 : World) (x : Value), Upd [] W0 W1 → W2 = W1.setCell ⟨k, 0, none⟩ x → Upd [] w W2 ∧ Blk W2 k #[x] 40 ∧ (∀ v ev o, Answer W1 v ev o → Answer W2 v ev o) := fun W1 W2 x h e => by
    subst e
    have hb := HB0.out.upd h (by simp)
    have hu2 : Upd [k] W1 (W1.setCell ⟨k, 0, none⟩ x) := (Upd.refl _ _).setCell (by simp) _
    refine ⟨(HU0.out.trans h).trans' hu2 (by intro i hi; have := HKL.out; simp only [List.mem_cons, List.not_mem_nil, or_false] at hi; omega), hb.set 0 x, fun v ev o ha => ha.later hu2 (fun q c hq hm => ?_)⟩
    simp only [List.mem_cons, List.not_mem_nil, or_false] at hm
    exact blk_ne hq hb (by decide) hm
  have HKEY := hd KEY
  clear KEY
  by_cases h1 : s = [47]
  · subst h1
    have he : ((txt [47]).toList == [47]) = true := by rw [txt_list]; rfl
    have hbz := HB0.out.frozen
    have hbc := HB0.out.cell
    have hq := hd (HKEY.out W0 _ (.string ⟨#[]⟩) (Upd.refl _ _) rfl)
    go_wp2_with fail
    refine bodyPost_ret (results_path _ rfl _ _ k _ rfl hq.out.2.1) rfl ?_
    exact ⟨_, _, rfl, hq.out.1, rfl, rfl⟩
  · have he : ((txt s).toList == [47]) = false := by rw [txt_list]; simpa using h1
    by_cases h47 : ∃ r, s = 47 :: r
    · obtain ⟨r, rfl⟩ := h47
      have HM := hd (show parse5 (47 :: r) = made5 (splitL r) by
        unfold parse5 made5
        rw [if_neg h1]
        simp)
      have HC := hd (lib_cut_yes r)
      have hrl : r.length ≤ 1000000 := by simp at hs; omega
      have HS := hd (fun W (h : Door W) => lib_split r W h (by omega))
      have HSL := hd (show ∀ x ∈ splitL r, x.length ≤ 9223372036854775807 by
        intro x hx
        have h1 := text_split r
        have h2 : ∀ l : List (List UInt8), x ∈ l → x.length ≤ (textL l).length := fun l hl => by
          induction l with
          | nil => cases hl
          | cons y l ih =>
            simp only [textL, List.cons_append, List.length_cons, List.length_append]
            rcases List.mem_cons.1 hl with rfl | h
            · omega
            · have := ih h; omega
        have := h2 _ hx
        rw [h1] at this
        simp at this
        simp at hs
        omega)
      have HLN := hd (show (splitL r).length ≤ 1000001 by
        rw [splitL_length]
        have := List.count_le_length (a := (47 : UInt8)) (l := r)
        omega)
      clear h1 hs
      go_wp2_with fail
      refine (HC.out _).mono ?_
      rintro e w1 ⟨rfl, rfl⟩
      go_wp2_with fail
      refine (HS.out _ (HD.out.later HU0.out)).mono ?_
      rintro e w2 ⟨rfl, hu2, hb2⟩
      have HMD := hd (pmade_any (splitL r) _ w2 (HD.out.later (HU0.out.trans hu2)) (blk_strs hb2 rfl (by have := HLN.out; omega)) HSL.out)
      have HU2 := hd hu2
      clear hu2 hb2
      go_wp2_with fail
      refine HMD.out.mono ?_
      rintro e w3 ⟨p, ev, rfl, hu3, hans⟩
      obtain ⟨T, rfl⟩ := hans.shape
      have hb3 := HB0.out.upd (HU2.out.trans hu3) (by simp)
      have hbz := hb3.frozen
      have hbc := hb3.cell
      have hq := hd (HKEY.out w3 _ (.string T) (HU2.out.trans hu3) rfl)
      have HA := hd (hq.out.2.2 _ _ _ hans)
      clear hb3 hu3 hans HMD
      go_wp2_with fail
      refine bodyPost_ret (results_path _ rfl _ _ k _ rfl hq.out.2.1) rfl ?_
      refine ⟨_, _, rfl, hq.out.1, ?_⟩
      rw [HM.out]
      exact HA.out
    · have hno : ∀ r, s ≠ 47 :: r := fun r e => h47 ⟨r, e⟩
      have HM := hd (show parse5 s = none by
        unfold parse5
        rw [if_neg h1]
        cases s with
        | nil => rfl
        | cons c r =>
          have : c ≠ 47 := fun e => hno r (by rw [e])
          simp [this])
      have HC := hd (fun W => lib_cut_no s W hno)
      clear h1 h47 hno
      go_wp2_with fail
      refine (HC.out _).mono ?_
      rintro e w1 ⟨rfl, rfl⟩
      go_wp2_with fail
      refine (HW.out _ (HD.out.later HU0.out)).mono ?_
      rintro e w3 ⟨ev, rfl, hu3, hev⟩
      have hb3 := HB0.out.upd hu3 (by simp)
      have hbz := hb3.frozen
      have hbc := hb3.cell
      have hq := hd (HKEY.out w3 _ (.string ⟨#[]⟩) hu3 rfl)
      have HA := hd (hq.out.2.2 (.agg #[.string (txt [])]) ev none ⟨rfl, hev⟩)
      clear hb3 hu3 hev
      go_wp2_with fail
      refine bodyPost_ret (results_path _ rfl _ _ k _ rfl hq.out.2.1) rfl ?_
      refine ⟨_, _, rfl, hq.out.1, ?_⟩
      rw [HM.out]
      exact HA.out

/-- The parts of a path's text. -/
def parts5 (s : List UInt8) : List (List UInt8) := if s = [] then [] else splitL (s.drop 1)
set_option maxHeartbeats 4000000 in
theorem pparts_any (s : List UInt8) (w : World) (hD : Door w) (hs : s.length ≤ 1000000) : Calls Tryz.prog 47 #[.agg #[.string (txt s)]] w fun e w' => ∃ v, e = .returned v ∧ Upd [] w w' ∧ TxsAt w' v (parts5 s) := by
  have hb := (Blk.new w #[.string (txt s)] 40).cell
  have HU := hd ((Upd.refl [] w).alloc (.cells #[.string (txt s)] 40))
  have HD := hd (hD.later HU.out)
  by_cases hs0 : s = []
  · subst hs0
    have he : (txt []).toList.isEmpty = true := by rw [txt_list]; rfl
    have HP := hd (show parts5 [] = [] from rfl)
    go_enter Tryz.func47, Tryz.ntmps47
    go_wp2_with fail
    go_ret
    refine ⟨_, rfl, HU.out, ?_⟩
    rw [HP.out]
    exact ⟨none, 0, rfl, by simp, by omega, fun h => absurd h (by simp)⟩
  · have HP := hd (show parts5 s = splitL (s.drop 1) from if_neg hs0)
    have he : (txt s).toList.isEmpty = false := by rw [txt_list]; simpa using hs0
    have h1 : (1 : Int) ≤ (s.length : Int) := by have := List.length_pos_iff.2 hs0; omega
    have hx : (txt s).extract 1 s.length = txt (s.drop 1) := txt_tail s 1
    have hln : (splitL (s.drop 1)).length ≤ 9223372036854775807 := by
      rw [splitL_length]
      have := List.count_le_length (a := (47 : UInt8)) (l := s.drop 1)
      rw [List.length_drop] at this
      omega
    have HS := hd (fun W (h : Door W) => lib_split (s.drop 1) W h (by rw [List.length_drop]; omega))
    have HLN := hd hln
    clear hs0 hln
    generalize s.drop 1 = r at *
    go_enter Tryz.func47, Tryz.ntmps47
    go_wp2_with fail
    refine (HS.out _ HD.out).mono ?_
    rintro e w1 ⟨rfl, hu1, hb1⟩
    have hb2 : Blk w1 (w.heap.size + 1) (strVals (splitL r)).toArray 9 := by
      have h := hb1
      rwa [show (w.alloc (.cells #[.string (txt s)] 40)).heap.size = w.heap.size + 1 by simp] at h
    go_wp2_with fail
    go_ret
    refine ⟨_, rfl, HU.out.trans hu1, ?_⟩
    rw [HP.out]
    exact blk_strs hb2 rfl HLN.out
end Go.Proofs.YtpniggmdokkkcaaGreatDoor
