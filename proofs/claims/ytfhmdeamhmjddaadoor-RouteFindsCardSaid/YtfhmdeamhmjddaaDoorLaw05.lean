/-
  The fixed fact of layer 5's statements, and the law PathParses, walked: it answers true. Condition: the library's variables hold what they are laid to hold.
-/
import Derived.Test.YtfhmdeamhmjddaaDoorPath5
set_option linter.unusedVariables false
set_option linter.unusedSimpArgs false
set_option maxRecDepth 100000
namespace Go.Proofs.YtfhmdeamhmjddaaDoor
open Go.RowKit

theorem parse5_inv {s : List UInt8} {l : List (List UInt8)} (h : parse5 s = some l) : madeL l = true ∧ (if textL l = [] then [47] else textL l) = s ∧ parts5 (textL l) = l ∧ (textL l).count 47 = l.length := by
  unfold parse5 at h
  split at h
  · rename_i h1
    simp at h
    subst h
    subst h1
    exact ⟨by decide, rfl, rfl, rfl⟩
  · split at h
    · cases h
    · rename_i c r
      split at h
      · rename_i h1
        obtain ⟨h1, h2⟩ := h1
        simp at h
        subst h
        subst h1
        refine ⟨h2, ?_, ?_, ?_⟩
        · rw [text_split, if_neg (by simp)]
        · rw [text_split]
          unfold parts5
          rw [if_neg (by simp)]
          rfl
        · rw [text_split, List.count_cons_self, splitL_length]
      · cases h
theorem lit_ab : parse5 [47, 97, 47, 98] = some [[97], [98]] := by decide
theorem lit_a : parse5 [47, 97, 47] = none := by decide

set_option maxHeartbeats 4000000 in
theorem awake05_any (w : World) (hD : Door w) : Calls Tryd.prog 10 #[] w fun e w' => e = .returned (.bool true) ∧ Upd [] w w' := by
  have h1 := pparse_any [47, 97, 47, 98] w hD (by decide)
  have h2 := fun W (h : Door W) => pparse_any [47, 97, 47] W h (by decide)
  rw [lit_ab] at h1
  rw [lit_a] at h2
  have HD := hd hD
  have H1 := hd h1
  have H2 := hd h2
  have e1 : txt [47, 97, 47, 98] = ⟨#[47, 97, 47, 98]⟩ := rfl
  have e2 : txt [47, 97, 47] = ⟨#[47, 97, 47]⟩ := rfl
  rw [e1] at H1
  rw [e2] at H2
  have HDP := hd (pdepth_any [47, 97, 47, 98])
  have HTX := hd (ptext_any [47, 97, 47, 98])
  rw [if_neg (by decide)] at HTX
  rw [show (List.count (47 : UInt8) [47, 97, 47, 98] : Nat) = 2 by decide] at HDP
  clear h1 h2 hD e1 e2
  go_enter Tryd.func10, Tryd.ntmps10
  go_wp2_with fail
  refine H1.out.mono ?_
  rintro e w1 ⟨p, ev, rfl, hu1, hp, hev⟩
  subst hp
  subst hev
  have e0 : ∃ W k, w1.heap.size = k ∧ w1.alloc (.cells #[.string (txt (textL [[97], [98]]))] 24) = W ∧ Upd [] w1 W ∧ Blk W k #[.string (txt [47, 97, 47, 98])] 24 := ⟨_, _, rfl, rfl, (Upd.refl _ _).alloc _, Blk.new _ _ _⟩
  have HU1 := hd hu1
  clear hu1
  go_upto_region 2 with fail
  obtain ⟨W2, k, hk, hW2, hu2, hb2⟩ := e0
  rw [hW2, hk]
  have HU2 := hd (HU1.out.trans hu2)
  have HB2 := hd hb2
  clear hW2 hk hu2 hb2 HU1
  go_wp2_with fail
  refine (H2.out _ (HD.out.later HU2.out)).mono ?_
  rintro e w3 ⟨p, ev, rfl, hu3, hp, hev⟩
  subst hp
  have HEV := hd hev
  have hb3 := (HB2.out.upd hu3 (by simp)).alloc (.cells #[.string (txt [])] 24)
  have hc3 := hb3.cell
  have HU3 := hd ((HU2.out.trans hu3).alloc (.cells #[.string (txt [])] 24))
  have HEV3 := hd (hev.upd ((Upd.refl [] _).alloc (.cells #[.string (txt [])] 24)))
  have HB3 := hd hb3
  clear hu3 hev hb3
  go_wp2_with fail
  refine (HDP.out _).mono ?_
  rintro e w4 ⟨rfl, hu4⟩
  have hc4 := (HB3.out.upd hu4 (by simp)).cell
  have HB4 := hd (HB3.out.upd hu4 (by simp))
  have HU4 := hd (HU3.out.trans hu4)
  have HEV4 := hd (HEV3.out.upd hu4)
  clear hc3 hu4 HB3 HEV3 HU3
  have he5 : ((txt [47, 97, 47, 98]).toList == [47, 97, 47, 98]) = true := by rw [txt_list]; rfl
  go_wp2_with fail
  refine (HTX.out _).mono ?_
  rintro e w5 ⟨rfl, hu5⟩
  have HU5 := hd (HU4.out.trans hu5)
  have HCD := hd (fcode_any ev _ w5 (HD.out.later HU5.out) (HEV4.out.upd hu5))
  clear hc4 hu5
  go_wp2_with fail
  refine HCD.out.mono ?_
  rintro e w6 ⟨rfl, hu6⟩
  have hcd : (codeOf noPath == 10) = true := rfl
  go_wp2_with fail
  go_ret
  exact ⟨rfl, HU5.out.trans hu6⟩

theorem trail_no : trailOf noPath = [[112, 97, 116, 104]] := rfl
set_option maxHeartbeats 8000000 in
theorem parses05_law (s : List UInt8) (w : World) (hD : Door w) (hs : s.length ≤ 9223372036854775807) : Calls Tryd.prog 3 #[.string (txt s)] w fun e w' => e = .returned (.bool true) ∧ Upd [] w w' := by
  have HD := hd hD
  have hAW := awake05_any w hD
  have HAW := hd hAW
  clear hD hAW
  go_enter Tryd.func3, Tryd.ntmps3
  go_wp2_with fail
  refine HAW.out.mono ?_
  rintro e w1 ⟨rfl, hu1⟩
  have HU1 := hd hu1
  clear hu1
  go_upto_region 3 with fail
  go_cut [11] (fun c wx => ∃ bb : Bool, c = .bool bb ∧ (bb = true → 150 ≤ s.length) ∧ (bb = false → s.length ≤ 150) ∧ wx = w1)
  case first =>
    by_cases h : 150 < s.length
    · have h' : (150 : Int) < (s.length : Int) := by omega
      go_wp2_with fail
      go_meet
      case rel => exact ⟨true, rfl, fun _ => (by omega), fun h => (by cases h), rfl⟩
    · have h' : ¬ (150 : Int) < (s.length : Int) := by omega
      go_wp2_with fail
      go_meet
      case rel => exact ⟨false, rfl, fun h => (by cases h), fun _ => (by omega), rfl⟩
  case rest =>
    obtain ⟨bb, rfl, hb1, hb2, rfl⟩ := hcut
    go_upto_if 11 with fail
    go_cut [0] (fun c wx => ∃ q : List UInt8, c = .string (txt q) ∧ q.length ≤ 150 ∧ wx = wc)
    case first =>
      rcases bb with _ | _
      · go_wp2_with fail
        go_meet
        case rel => exact ⟨s, rfl, (by first | exact hb2 rfl | exact hb2 trivial), rfl⟩
      · have h1 : 150 ≤ s.length := by first | exact hb1 rfl | exact hb1 trivial
        have h1' : (150 : Int) ≤ (s.length : Int) := by omega
        have hx : (txt s).extract 0 150 = txt (s.take 150) := txt_head s 150 h1
        clear hb1 hb2
        go_wp2_with fail
        go_meet
        case rel => exact ⟨s.take 150, rfl, by rw [List.length_take]; omega, rfl⟩
    case rest =>
      obtain ⟨q, rfl, hq, rfl⟩ := hcut
      have HP := hd (pparse_any q _ (HD.out.later HU1.out) (by omega))
      have HR := hd (fun W => rparse_any q W (by omega))
      have HINV := hd (fun l (h : parse5 q = some l) => parse5_inv h)
      have HTX := hd (fun l (h : parse5 q = some l) W => ptext_any (textL l) W)
      clear hb1 hb2 hs
      generalize hpq : parse5 q = o at *
      go_wp2_with fail
      refine HP.out.mono ?_
      rintro e w2 ⟨p, ev, rfl, hu2, hans⟩
      obtain ⟨T, rfl⟩ := hans.shape
      have e0 : ∃ W k, w2.heap.size = k ∧ w2.alloc (.cells #[.string T] 24) = W ∧ Upd [] w2 W ∧ Blk W k #[.string T] 24 := ⟨_, _, rfl, rfl, (Upd.refl _ _).alloc _, Blk.new _ _ _⟩
      have HU2 := hd (HU1.out.trans hu2)
      have HA := hd hans
      clear hu2 hans
      go_upto_region 6 with fail
      obtain ⟨W3, k, hk, hW3, hu3, hb3⟩ := e0
      rw [hW3, hk]
      have HU3 := hd (HU2.out.trans hu3)
      have HB3 := hd hb3
      have HA3 := hd (HA.out.later (Ls := []) hu3 (by simp))
      clear hW3 hk hu3 hb3 HU2 HA
      go_wp2_with fail
      refine (HR.out _).mono ?_
      rintro e w4 ⟨lv, b, rfl, hu4, hparts⟩
      have HU4 := hd (HU3.out.trans hu4)
      have HB4 := hd (HB3.out.upd hu4 (by simp))
      have HA4 := hd (HA3.out.later (Ls := []) hu4 (by simp))
      have hc4 := HB4.out.cell
      clear hu4 HU3 HB3 HA3
      cases o with
      | none =>
        obtain rfl : b = false := hparts
        obtain ⟨hT, hev⟩ := HA4.out
        have hT' : T = ⟨#[]⟩ := by simpa [txt] using hT
        subst hT'
        have HEV := hd hev
        have HCD := hd (fcode_any ev _ w4 (HD.out.later HU4.out) hev)
        have hcd : (codeOf noPath == 10) = true := rfl
        clear hT hev HA4
        go_wp2_with fail
        refine HCD.out.mono ?_
        rintro e w5 ⟨rfl, hu5⟩
        have hc5 := (HB4.out.upd hu5 (by simp)).cell
        have HU5 := hd (HU4.out.trans hu5)
        have HTR := hd (ftrail_any ev _ w5 (HEV.out.upd hu5) (by decide))
        rw [trail_no] at HTR
        clear hu5 hc4
        go_wp2_with fail
        refine HTR.out.mono ?_
        rintro e w6 ⟨u, rfl, hu6, hrow⟩
        obtain ⟨a6, c6, rfl, -⟩ := own_open hrow
        have hu7 := (Upd.refl [] w6).alloc (.cells #[.string ⟨#[112, 97, 116, 104]⟩] 9)
        have HSM := hd (same_any [[112, 97, 116, 104]] [[112, 97, 116, 104]] _ _ (w6.alloc (.cells #[.string ⟨#[112, 97, 116, 104]⟩] 9)) ((row_strs hrow).upd hu7) (blk_strs (l := [[112, 97, 116, 104]]) (Blk.new w6 #[.string ⟨#[112, 97, 116, 104]⟩] 9) rfl (by decide)))
        have hdd : decide ([[(112 : UInt8), 97, 116, 104]] = [[112, 97, 116, 104]]) = true := by decide
        rw [hdd] at HSM
        have HU7 := hd ((HU5.out.trans hu6).trans hu7)
        have hl1 : ([[112, 97, 116, 104]] : List (List UInt8)).length = 1 := rfl
        rw [hl1] at HSM ⊢
        clear hrow hdd hl1 hu6 hu7
        go_wp2_with fail
        refine HSM.out.mono ?_
        rintro e w8 ⟨rfl, hu8⟩
        have HU8 := hd (HU7.out.trans hu8)
        clear hu8
        go_wp2_with fail
        go_ret
        exact ⟨rfl, HU8.out⟩
      | some l =>
        obtain ⟨rfl, htx⟩ := hparts
        obtain ⟨hT, rfl⟩ := HA4.out
        simp only [Value.agg.injEq, Array.mk.injEq, List.cons.injEq, Value.string.injEq, and_true] at hT
        subst hT
        obtain ⟨i1, i2, i3, i4⟩ := HINV.out l rfl
        have hsz : (textL l).length ≤ 1000000 := by
          by_cases h0 : textL l = []
          · rw [h0]; simp
          · rw [if_neg h0] at i2; rw [i2]; omega
        have HTXT := hd (HTX.out l rfl)
        rw [i2] at HTXT
        have HPT := hd (fun W (h : Door W) => pparts_any (textL l) W h hsz)
        rw [i3] at HPT
        have HDP := hd (pdepth_any (textL l))
        rw [i4] at HDP
        have HTX4 := hd htx
        obtain ⟨al, cl, rfl, -⟩ := htx
        have hqq : ((txt q).toList == (txt q).toList) = true := by simp
        clear i1 i2 i3 i4 hsz HTX HINV HA4
        go_wp2_with fail
        refine (HTXT.out _).mono ?_
        rintro e w5 ⟨rfl, hu5⟩
        have HU5 := hd (HU4.out.trans hu5)
        have HB5 := hd (HB4.out.upd hu5 (by simp))
        have HTX5 := hd (HTX4.out.upd hu5)
        have hc5 := HB5.out.cell
        clear hc4 hu5 HTXT HU4 HB4 HTX4
        go_wp2_with fail
        refine (HPT.out _ (HD.out.later HU5.out)).mono ?_
        rintro e w6 ⟨v6, rfl, hu6, hv6⟩
        have HSM := hd (same_any l l v6 (.slice al l.length cl) w6 hv6 (HTX5.out.upd hu6))
        have hdd : decide (l = l) = true := by simp
        rw [hdd] at HSM
        have HU6 := hd (HU5.out.trans hu6)
        have HB6 := hd (HB5.out.upd hu6 (by simp))
        have hc6 := HB6.out.cell
        obtain ⟨av, cv, rfl, -⟩ := hv6
        clear hdd hc5 hu6 HPT HB5 HTX5 HU5
        go_wp2_with fail
        refine HSM.out.mono ?_
        rintro e w7 ⟨rfl, hu7⟩
        have HU7 := hd (HU6.out.trans hu7)
        have hc7 := (HB6.out.upd hu7 (by simp)).cell
        clear hc6 hu7 HSM HB6
        go_wp2_with fail
        refine (HDP.out _).mono ?_
        rintro e w8 ⟨rfl, hu8⟩
        have HU8 := hd (HU7.out.trans hu8)
        clear hc7 hu8
        go_wp2_with fail
        go_ret
        exact ⟨rfl, HU8.out⟩
end Go.Proofs.YtfhmdeamhmjddaaDoor
