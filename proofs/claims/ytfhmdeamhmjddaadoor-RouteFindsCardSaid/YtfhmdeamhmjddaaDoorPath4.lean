/-
  The document's Made and Parse, and the statements' same, walked. Conditions: texts of sizes that there are.
-/
import Derived.Test.YtfhmdeamhmjddaaDoorPath3
set_option linter.unusedVariables false
set_option linter.unusedSimpArgs false
set_option maxRecDepth 100000
namespace Go.Proofs.YtfhmdeamhmjddaaDoor
open Go.RowKit

set_option maxHeartbeats 2000000 in
theorem same_any (a b : List (List UInt8)) (va vb : Value) (w : World) (ha : TxsAt w va a) (hb : TxsAt w vb b) :
    Calls Tryd.prog 14 #[va, vb] w fun x w' => x = .returned (.bool (decide (a = b))) ∧ Upd [] w w' := by
  have HA := hd ha
  have HB := hd hb
  obtain ⟨aa, ca, rfl, ha1, ha2, ha3⟩ := ha
  obtain ⟨ab, cb, rfl, hb1, hb2, hb3⟩ := hb
  have HA3 := hd ha3
  have HB3 := hd hb3
  clear ha3 hb3
  go_enter Tryd.func14, Tryd.ntmps14
  by_cases hl : a.length = b.length
  · have hl' : ((a.length : Int) != (b.length : Int)) = false := by simp [hl]
    have HL := hd hl
    clear hl
    go_wp2_with fail
    go_loopw [13] (fun c wr => ∃ t : Nat, c = .int .i64 t ∧ t ≤ a.length ∧ a.take t = b.take t ∧ Upd [] w wr) (fun c _ => a.length - (intOf c).toNat)
    case atStart => exact ⟨0, rfl, by omega, rfl, Upd.refl _ _⟩
    case round =>
      obtain ⟨t, rfl, ht, heq, hu⟩ := hrel
      have HU := hd hu
      have HEQ := hd heq
      clear hu heq
      by_cases htn : t < a.length
      · have htn' : (t : Int) < (a.length : Int) := by omega
        have hbn : t < b.length := by have := HL.out; omega
        have hbn' : (t : Int) < (b.length : Int) := by omega
        obtain ⟨ka, oa, rfl, hka, hca⟩ := HA3.out (by omega)
        obtain ⟨kb, ob, rfl, hkb, hcb⟩ := HB3.out (by omega)
        have c0 : ∀ W, Upd [] w W → W.cell? ⟨ka, oa + t, none⟩ = some (.string (txt a[t])) := fun W hu => by rw [← hca t htn]; exact World.cell?_of_block (hu.block ka hka (by simp))
        have c1 : ∀ W, Upd [] w W → W.cell? ⟨kb, ob + t, none⟩ = some (.string (txt b[t])) := fun W hu => by rw [← hcb t hbn]; exact World.cell?_of_block (hu.block kb hkb (by simp))
        have d0 := c0 _ HU.out
        have d1 := c1 _ HU.out
        have d2 := c0 _ HU.out.drew
        have d3 := c1 _ HU.out.drew
        have hka' : ka < wr.heap.size := by have := HU.out.size; omega
        have hkb' : kb < wr.heap.size := by have := HU.out.size; omega
        have HT := hd (show a.take (t + 1) = a.take t ++ [a[t]] ∧ b.take (t + 1) = b.take t ++ [b[t]] from ⟨List.take_succ_eq_append_getElem htn, List.take_succ_eq_append_getElem hbn⟩)
        have HNE := hd (show a[t] ≠ b[t] → a ≠ b from fun h e => h (by subst e; rfl))
        clear c0 c1 hca hcb
        generalize a[t] = x at *
        generalize b[t] = y at *
        by_cases hxy : x = y
        · subst hxy
          go_upto_region 6 with fail
          go_region_with fail
          all_goals
            go_wp2_with fail
            go_roundw
            case rel => exact ⟨t + 1, by go_num, by omega, by rw [HT.out.1, HT.out.2, HEQ.out], HU.out.drew⟩
            case measure => simp [intOf]; omega
        · have HN := hd (HNE.out hxy)
          have hxs : ((txt x).toList == (txt y).toList) = false := by simpa [txt_list] using hxy
          clear hxy
          go_upto_region 6 with fail
          go_region_with fail
          all_goals
            go_wp2_with fail
            go_ret
            rw [decide_eq_false HN.out]
            exact ⟨rfl, HU.out.drew⟩
      · have HE := hd (show decide (a = b) = true by
          have h := HEQ.out
          rw [List.take_of_length_le (by omega), List.take_of_length_le (by have := HL.out; omega)] at h
          simpa using h)
        go_wp2_with fail
        go_ret
        rw [HE.out]
        exact ⟨rfl, HU.out⟩
  · have hl' : ((a.length : Int) != (b.length : Int)) = true := by rw [bne_iff_ne]; omega
    have HD := hd (show decide (a = b) = false by
      rw [decide_eq_false_iff_not]
      intro e
      exact hl (by rw [e]))
    clear hl
    go_wp2_with fail
    go_ret
    rw [HD.out]
    exact ⟨rfl, Upd.refl _ _⟩

set_option maxHeartbeats 4000000 in
theorem rmade_any (l : List (List UInt8)) (v : Value) (w : World) (hv : TxsAt w v l) (hl : ∀ x ∈ l, x.length ≤ 9223372036854775807) :
    Calls Tryd.prog 34 #[v] w fun e w' => e = .returned (.bool (madeL l)) ∧ w = w' := by
  have HV := hd hv
  obtain ⟨a, c, rfl, hc, hm, -⟩ := hv
  go_enter Tryd.func34, Tryd.ntmps34
  go_wp2_with fail
  go_loopw [7] (fun s7 wr => ∃ t : Nat, s7 = .int .i64 t ∧ t ≤ l.length ∧ (∀ x ∈ l.take t, partL x = true) ∧ w = wr) (fun s7 _ => l.length - (intOf s7).toNat)
  case atStart => exact ⟨0, rfl, by omega, by simp, rfl⟩
  case round =>
    obtain ⟨t, rfl, ht, hall, rfl⟩ := hrel
    have HALL := hd hall
    clear hall
    by_cases htn : t < l.length
    · have htn' : (t : Int) < (l.length : Int) := by omega
      obtain ⟨a', c', e, q1, q2, q3⟩ := HV.out
      simp only [Value.slice.injEq] at e
      obtain ⟨rfl, -, rfl⟩ := e
      obtain ⟨kl, ol, rfl, hkl, hcl⟩ := q3 (by omega)
      have hc0 := hcl t htn
      have hx := hl l[t] (List.getElem_mem _)
      have HP := hd (fun W => rpart_any l[t] W hx)
      have HIN := hd (show ∀ y ∈ l.take (t + 1), y ∈ l.take t ∨ y = l[t] by
        intro y hy
        rw [List.take_succ_eq_append_getElem htn] at hy
        rcases List.mem_append.1 hy with h | h
        · exact .inl h
        · exact .inr (List.mem_singleton.1 h))
      have HMF := hd (show partL l[t] = false → madeL l = false from fun h => by
        unfold madeL
        have : l.all partL = false := List.all_eq_false.2 ⟨l[t], List.getElem_mem _, by rw [h]; decide⟩
        rw [this]; rfl)
      clear hcl q3
      generalize l[t] = x at *
      rcases hp : partL x with _ | _
      · rw [hp] at HP
        have HM := hd (HMF.out hp)
        clear hp HMF
        go_wp2_with fail
        refine (HP.out _).mono ?_
        rintro e w1 ⟨rfl, rfl⟩
        go_wp2_with fail
        go_ret
        exact ⟨by rw [HM.out]; rfl, rfl⟩
      · rw [hp] at HP
        have HPT := hd hp
        clear hp HMF
        go_wp2_with fail
        refine (HP.out _).mono ?_
        rintro e w1 ⟨rfl, rfl⟩
        go_wp2_with fail
        go_roundw
        case rel => exact ⟨t + 1, by go_num, by omega, fun y hy => (HIN.out y hy).elim (HALL.out y) (fun e => e ▸ HPT.out), by first | rfl | trivial⟩
        case measure => simp [intOf]; omega
    · have htl : l.take t = l := List.take_of_length_le (by omega)
      rw [htl] at HALL
      clear htl
      by_cases h6 : l.length ≤ 6
      · have h6' : (l.length : Int) < 7 := by omega
        have HM := hd (show madeL l = true by
          unfold madeL
          rw [List.all_eq_true.2 HALL.out, decide_eq_true h6]
          rfl)
        go_wp2_with fail
        go_ret
        exact ⟨by rw [HM.out]; rfl, rfl⟩
      · have h6' : ¬ (l.length : Int) < 7 := by omega
        have HM := hd (show madeL l = false by
          unfold madeL
          rw [decide_eq_false h6]
          simp)
        go_wp2_with fail
        go_ret
        exact ⟨by rw [HM.out]; rfl, rfl⟩
end Go.Proofs.YtfhmdeamhmjddaaDoor
