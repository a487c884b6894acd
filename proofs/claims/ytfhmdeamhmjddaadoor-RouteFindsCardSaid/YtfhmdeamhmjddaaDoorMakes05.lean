/-
  The law PathMakes of layer 5, walked: it answers true. Conditions: the list reads as a list; the library's variables hold what they are laid to hold.
-/
import Derived.Test.YtfhmdeamhmjddaaDoorUps05
set_option linter.unusedVariables false
set_option linter.unusedSimpArgs false
set_option maxRecDepth 100000
namespace Go.Proofs.YtfhmdeamhmjddaaDoor
open Go.RowKit

theorem made_fine {l : List (List UInt8)} (h : madeL l = true) : (∀ x ∈ l, partL x = true) ∧ l.length ≤ 6 := by
  unfold madeL at h
  simp only [Bool.and_eq_true, decide_eq_true_eq, List.all_eq_true] at h
  exact h
theorem parse_text {l : List (List UInt8)} (h : madeL l = true) : parse5 (if textL l = [] then [47] else textL l) = some l := by
  obtain ⟨h1, h2⟩ := made_fine h
  have hc := clean_of h1
  cases l with
  | nil => rfl
  | cons x r =>
    have hne : textL (x :: r) ≠ [] := by simp [textL]
    rw [if_neg hne]
    show parse5 (47 :: (x ++ textL r)) = _
    have hx := (part_short (h1 x (by simp))).2.1
    have hne2 : ¬ ((47 : UInt8) :: (x ++ textL r) = [47]) := by
      intro e
      simp only [List.cons.injEq, true_and, List.append_eq_nil_iff] at e
      exact hx e.1
    unfold parse5
    rw [if_neg hne2]
    simp only [true_and]
    rw [splitL_text (hc x (by simp)) (fun z hz => hc z (by simp [hz])), if_pos h]
theorem six_made {l : List (List UInt8)} (h : madeL l = true) : Six l := by
  obtain ⟨h1, h2⟩ := made_fine h
  have hc := clean_of h1
  exact ⟨h1, h2, hc, by have := text_small (l := l) (fun x hx => (part_short (h1 x hx)).1); omega, parts_text hc, count_text hc⟩
theorem up_last (l : List (List UInt8)) (h : Clean l) : upT (textL l) = textL (l.take (max ((l.length : Int) - 1) 0).toNat) := by
  rcases List.eq_nil_or_concat l with rfl | ⟨q, x, rfl⟩
  · rfl
  · have hx : (47 : UInt8) ∉ x := h x (by simp)
    rw [List.concat_eq_append, up_text hx]
    congr 1
    rw [show (max (((q ++ [x]).length : Int) - 1) 0).toNat = q.length by simp, List.take_left]

set_option maxHeartbeats 16000000 in
theorem makes05_law (la : List (List UInt8)) (va : Value) (w : World) (hD : Door w) (ha : TxsAt w va la) (hla : ∀ x ∈ la, x.length ≤ 9223372036854775807) :
    Calls Tryd.prog 8 #[va] w fun e w' => e = .returned (.bool true) ∧ Upd [] w w' := by
  have HD := hd hD
  have HAW := hd (awake05_any w hD)
  have HA := hd ha
  have HLA := hd hla
  obtain ⟨a0, c0, rfl, hc1, hc2, -⟩ := ha
  clear hD hla
  go_enter Tryd.func8, Tryd.ntmps8
  go_wp2_with fail
  refine HAW.out.mono ?_
  rintro e w1 ⟨rfl, hu1⟩
  have HU1 := hd hu1
  clear hu1
  go_upto_region 3 with fail
  go_cut [12] (fun c wx => ∃ bb : Bool, c = .bool bb ∧ (bb = true → 9 ≤ la.length) ∧ wx = w1)
  case first =>
    by_cases h : 9 < la.length
    · have h' : (9 : Int) < (la.length : Int) := by omega
      go_wp2_with fail
      go_meet
      case rel => exact ⟨true, rfl, fun _ => (by omega), rfl⟩
    · have h' : ¬ (9 : Int) < (la.length : Int) := by omega
      go_wp2_with fail
      go_meet
      case rel => exact ⟨false, rfl, fun h => (by cases h), rfl⟩
  case rest =>
    obtain ⟨bb, rfl, hb1, rfl⟩ := hcut
    go_upto_if 12 with fail
    go_cut [0] (fun c wx => ∃ (l : List (List UInt8)) (aq : Option Addr) (cq : Nat), c = .slice aq l.length cq ∧ TxsAt w c l ∧ (∀ x ∈ l, x ∈ la) ∧ wx = wc)
    case first =>
      rcases bb with _ | _
      · go_wp2_with fail
        go_meet
        case rel => exact ⟨la, a0, c0, rfl, HA.out, fun _ h => h, rfl⟩
      · have h9 : 9 ≤ la.length := by first | exact hb1 rfl | exact hb1 trivial
        have h9' : 9 ≤ c0 := by omega
        obtain ⟨a', c', e, q1, q2, q3⟩ := HA.out
        simp only [Value.slice.injEq] at e
        obtain ⟨rfl, -, rfl⟩ := e
        obtain ⟨kl, ol, rfl, -⟩ := q3 (by omega)
        have HT := hd (HA.out.take 9 h9)
        have HL9 := hd (show (la.take 9).length = 9 by rw [List.length_take]; omega)
        clear hb1 q3
        go_wp2_with fail
        go_meet
        case rel => exact ⟨la.take 9, _, _, by rw [HL9.out], HT.out, fun _ h => List.mem_of_mem_take h, rfl⟩
    case rest =>
      obtain ⟨l, aq, cq, rfl, htx, hmem, rfl⟩ := hcut
      clear hb1
      have HM := hd (pmade_any l _ _ (HD.out.later HU1.out) (htx.upd HU1.out) (fun x hx => HLA.out x (hmem x hx)))
      have HR := hd (fun W (h : Upd [] w W) => rmade_any l _ W (htx.upd h) (fun x hx => HLA.out x (hmem x hx)))
      have HTX := hd htx
      obtain ⟨_, _, hee, hcl1, hcl2, -⟩ := htx
      simp only [Value.slice.injEq] at hee
      obtain ⟨rfl, -, rfl⟩ := hee
      clear hmem
      rcases hml : madeL l with _ | _
      · have hm5 : made5 l = none := by unfold made5; rw [hml]; rfl
        rw [hm5] at HM
        rw [hml] at HR
        clear hml hm5
        go_wp2_with fail
        refine HM.out.mono ?_
        rintro e w2 ⟨p, ev, rfl, hu2, hp, hev⟩
        subst hp
        have e0 : ∃ W k, w2.heap.size = k ∧ w2.alloc (.cells #[.string (txt [])] 24) = W ∧ Upd [] w2 W ∧ Blk W k #[.string (txt [])] 24 := ⟨_, _, rfl, rfl, (Upd.refl _ _).alloc _, Blk.new _ _ _⟩
        have HU2 := hd (HU1.out.trans hu2)
        have HE2 := hd hev
        clear hu2 hev
        go_upto_region 6 with fail
        obtain ⟨W3, k, hk, hW3, hu3, hb3⟩ := e0
        rw [hW3, hk]
        have HU3 := hd (HU2.out.trans hu3)
        have HB3 := hd hb3
        have HE3 := hd (HE2.out.upd hu3)
        clear hW3 hk hu3 hb3 HU2 HE2
        go_wp2_with fail
        refine (HR.out _ HU3.out).mono ?_
        rintro e w4 ⟨rfl, rfl⟩
        have HCD := hd (fcode_any ev _ _ (HD.out.later HU3.out) HE3.out)
        have hcd : (codeOf noPath == 10) = true := rfl
        have he1 : ((txt []).toList == []) = true := by rw [txt_list]; rfl
        have he2 : (txt []).toList.isEmpty = true := by rw [txt_list]; rfl
        go_wp2_with fail
        refine HCD.out.mono ?_
        rintro e w5 ⟨rfl, hu5⟩
        have hc5 := (HB3.out.upd hu5 (by simp)).cell
        go_wp2_with fail
        go_ret
        exact ⟨rfl, HU3.out.trans hu5⟩
      · have hm5 : made5 l = some l := by unfold made5; rw [hml]; rfl
        rw [hm5] at HM
        rw [hml] at HR
        have HML := hd hml
        clear hml hm5
        go_wp2_with fail
        refine HM.out.mono ?_
        rintro e w2 ⟨p, ev, rfl, hu2, rfl, rfl⟩
        have e0 : ∃ W k, w2.heap.size = k ∧ w2.alloc (.cells #[.string (txt (textL l))] 24) = W ∧ Upd [] w2 W ∧ Blk W k #[.string (txt (textL l))] 24 := ⟨_, _, rfl, rfl, (Upd.refl _ _).alloc _, Blk.new _ _ _⟩
        have HU2 := hd (HU1.out.trans hu2)
        clear hu2
        go_upto_region 6 with fail
        obtain ⟨W3, k, hk, hW3, hu3, hb3⟩ := e0
        rw [hW3, hk]
        have HU3 := hd (HU2.out.trans hu3)
        have HB3 := hd hb3
        clear hW3 hk hu3 hb3 HU2
        have HTXT := hd (ptext_any (textL l))
        have HS := hd (six_made HML.out)
        have HPR := hd (fun W (h : Door W) => pparse_any (if textL l = [] then [47] else textL l) W h (by have := HS.out.size; split <;> simp <;> omega))
        rw [parse_text HML.out] at HPR
        have HUP := hd (fun W => pup_any (textL l) W (by have := HS.out.size; omega))
        rw [up_last l HS.out.clean] at HUP
        have HRT := hd (fun W (h : Upd [] w W) => rtext_any l _ W (HTX.out.upd h) HML.out)
        have htq : (if textL l = [] then [47] else textL l) = (if l = [] then [47] else textL l) := by
          cases l with
          | nil => rfl
          | cons x r => rw [if_neg (by simp [textL]), if_neg (by simp)]
        rw [← htq] at HRT
        clear htq
        generalize (if textL l = [] then [47] else textL l) = TX at *
        obtain ⟨n1, hn1⟩ : ∃ n1 : Nat, (max ((l.length : Int) - 1) 0).toNat = n1 ∧ n1 ≤ l.length ∧ ((n1 : Nat) : Int) = max ((l.length : Int) - 1) 0 := ⟨_, rfl, by omega, by omega⟩
        rw [hn1.1] at HUP
        have HN1 := hd hn1
        have HSK := hd (six_drop HS.out n1)
        clear hn1
        have hbc := HB3.out.cell
        go_wp2_with fail
        refine (HR.out _ HU3.out).mono ?_
        rintro e w4 ⟨rfl, rfl⟩
        go_wp2_with fail
        refine (HTXT.out _).mono ?_
        rintro e w5 ⟨rfl, hu5⟩
        have HU5 := hd (HU3.out.trans hu5)
        have HB5 := hd (HB3.out.upd hu5 (by simp))
        clear hbc hu5
        go_wp2_with fail
        refine (HPR.out _ (HD.out.later HU5.out)).mono ?_
        rintro e w6 ⟨p, ev, rfl, hu6, rfl, rfl⟩
        have HU6 := hd (HU5.out.trans hu6)
        have HB6 := hd (HB5.out.upd hu6 (by simp))
        have e0 : ∃ W k, w6.heap.size = k ∧ w6.alloc (.cells #[.string (txt (textL l))] 24) = W ∧ Upd [] w6 W ∧ Blk W k #[.string (txt (textL l))] 24 := ⟨_, _, rfl, rfl, (Upd.refl _ _).alloc _, Blk.new _ _ _⟩
        clear hu6
        go_upto_region 9 with fail
        obtain ⟨W7, j, hj, hW7, hu7, hb7⟩ := e0
        rw [hW7, hj]
        have HU7 := hd (HU6.out.trans hu7)
        have HB7 := hd (HB6.out.upd hu7 (by simp))
        have HJ7 := hd hb7
        have hbc := HB7.out.cell
        have hjc := HJ7.out.cell
        clear hW7 hj hu7 hb7
        go_wp2_with fail
        refine (HUP.out _).mono ?_
        rintro e w8 ⟨rfl, hu8⟩
        have HU8 := hd (HU7.out.trans hu8)
        have HB8 := hd (HB7.out.upd hu8 (by simp))
        have HJ8 := hd (HJ7.out.upd hu8 (by simp))
        have e0 : ∃ W k, w8.heap.size = k ∧ w8.alloc (.cells #[.string (txt (textL (l.take n1)))] 24) = W ∧ Upd [] w8 W ∧ Blk W k #[.string (txt (textL (l.take n1)))] 24 := ⟨_, _, rfl, rfl, (Upd.refl _ _).alloc _, Blk.new _ _ _⟩
        clear hbc hjc hu8
        go_upto_region 10 with fail
        obtain ⟨W9, i, hi, hW9, hu9, hb9⟩ := e0
        rw [hW9, hi]
        have HU9 := hd (HU8.out.trans hu9)
        have HB9 := hd (HB8.out.upd hu9 (by simp))
        have HJ9 := hd (HJ8.out.upd hu9 (by simp))
        have HI9 := hd hb9
        clear hW9 hi hu9 hb9
        have HKS := hd (show ∀ W', Upd [] W9 W' → ((∀ o', W'.cell? ⟨k, o', none⟩ = #[.string (txt (textL l))][o']?) ∧ (∀ o', W'.cell? ⟨j, o', none⟩ = #[.string (txt (textL l))][o']?) ∧ (∀ o', W'.cell? ⟨i, o', none⟩ = #[.string (txt (textL (l.take n1)))][o']?)) from fun W' h => ⟨(HB9.out.upd h (by simp)).cell, (HJ9.out.upd h (by simp)).cell, (HI9.out.upd h (by simp)).cell⟩)
        have HT1 := hd (fun W' (h : Upd [] W9 W') => HTXT.out W')
        have HR1 := hd (fun W' (h : Upd [] W9 W') => HRT.out W' (HU9.out.trans h))
        have HP1 := hd (fun W' (h : Upd [] W9 W') => pparts_any (textL l) W' (HD.out.later (HU9.out.trans h)) (by have := HS.out.size; omega))
        have HP2 := hd (fun W' (h : Upd [] W9 W') => pparts_any (textL (l.take n1)) W' (HD.out.later (HU9.out.trans h)) (by have := HSK.out.size; omega))
        rw [HS.out.parts] at HP1
        rw [HSK.out.parts] at HP2
        have HO := hd (fun W' => pover_any (textL (l.take n1)) (textL l) W')
        have ho : overT (textL (l.take n1)) (textL l) = true := by
          rw [overT_parts HSK.out.clean HS.out.clean, List.isPrefixOf_iff_prefix]
          exact List.take_prefix _ _
        rw [ho] at HO
        have HS1 := hd (fun W' (h : Upd [] W9 W') v (hv : TxsAt W' v l) => same_any l l v (.slice aq l.length cq) W' hv (HTX.out.upd (HU9.out.trans h)))
        have HS2 := hd (fun W' (h : Upd [] W9 W') v (hv : TxsAt W' v (l.take n1)) => same_any (l.take n1) (l.take n1) v (.slice aq (max ((l.length : Int) - 1) 0).toNat cq) W' hv (by rw [HN1.out.1]; exact (HTX.out.upd (HU9.out.trans h)).take n1 HN1.out.2.1))
        rw [show decide (l = l) = true by simp] at HS1
        rw [show decide (l.take n1 = l.take n1) = true by simp] at HS2
        have hr1 : 0 ≤ max ((l.length : Int) - 1) 0 := by omega
        have hr2 : max ((l.length : Int) - 1) 0 ≤ (cq : Int) := by omega
        have hl6 : (l.length : Int) ≤ 6 := by have := HS.out.few; omega
        have hl7 : IntKind.i64.wrap ((l.length : Int) - 1) = (l.length : Int) - 1 := by first | (rw [IntKind.wrap_i64]; omega) | (unfold IntKind.wrap; simp [IntKind.bits, IntKind.signed]; omega) | (simp; omega)
        have hqq : ((txt TX).toList == (txt TX).toList) = true := by simp
        have hbc := HB9.out.cell
        have hjc := HJ9.out.cell
        have hic := HI9.out.cell
        clear ho
        generalize l.take n1 = L2 at *
        rcases aq with _ | ad
        all_goals
          go_region_held3 (fun W' => (∀ o', W'.cell? ⟨k, o', none⟩ = #[.string (txt (textL l))][o']?) ∧ (∀ o', W'.cell? ⟨j, o', none⟩ = #[.string (txt (textL l))][o']?) ∧ (∀ o', W'.cell? ⟨i, o', none⟩ = #[.string (txt (textL L2))][o']?))
            ((refine HKS.out _ ?_; repeat (first | with_reducible exact Upd.refl _ _ | with_reducible exact hupG | with_reducible exact hupF | with_reducible exact hupE | with_reducible exact hupD | with_reducible exact hupC | with_reducible exact hupB | with_reducible exact hupA | with_reducible refine Upd.drew ?_ | with_reducible refine Upd.alloc ?_ _)))
            (first
            | ((with_reducible refine (HT1.out _ (Upd.refl [] W9).drew).mono ?_); rintro e wA ⟨rfl, huA⟩; have hupA : Upd [] W9 wA := ((Upd.refl [] W9).drew).trans huA)
            | ((with_reducible refine (HR1.out _ hupA).mono ?_); rintro e wB ⟨rfl, rfl⟩)
            | ((with_reducible refine (HP1.out _ hupA).mono ?_); rintro e wC ⟨vC, rfl, huC, hvC⟩; have HVC := hd hvC; obtain ⟨aC, cC, rfl, -⟩ := hvC; have hupC : Upd [] W9 wC := hupA.trans huC)
            | ((with_reducible refine (HS1.out _ hupC _ HVC.out).mono ?_); rintro e wD ⟨rfl, huD⟩; have hupD : Upd [] W9 wD := hupC.trans huD)
            | ((with_reducible refine (HP2.out _ hupD).mono ?_); rintro e wE ⟨vE, rfl, huE, hvE⟩; have HVE := hd hvE; obtain ⟨aE, cE, rfl, -⟩ := hvE; have hupE : Upd [] W9 wE := hupD.trans huE)
            | ((with_reducible refine (HS2.out _ hupE _ HVE.out).mono ?_); rintro e wF ⟨rfl, huF⟩; have hupF : Upd [] W9 wF := hupE.trans huF)
            | ((with_reducible refine (HO.out _).mono ?_); rintro e wG ⟨rfl, huG⟩; have hupG : Upd [] W9 wG := hupF.trans huG)
            | fail "no arm")
          all_goals
            go_wp2_with fail
            go_ret
            exact ⟨rfl, HU9.out.trans hupG⟩
end Go.Proofs.YtfhmdeamhmjddaaDoor
