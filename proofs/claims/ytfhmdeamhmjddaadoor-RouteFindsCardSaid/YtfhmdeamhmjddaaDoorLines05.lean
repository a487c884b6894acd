/-
  The law PathLines of layer 5, walked: it answers true. Conditions: the lists read as lists; the library's variables hold what they are laid to hold.
-/
import Derived.Test.YtfhmdeamhmjddaaDoorPath8
import Derived.Test.YtfhmdeamhmjddaaDoorLaw05
set_option linter.unusedVariables false
set_option linter.unusedSimpArgs false
set_option maxRecDepth 100000
namespace Go.Proofs.YtfhmdeamhmjddaaDoor
open Go.RowKit

/-- What is known of the parts that the statements' Made leaves. -/
structure Six (m : List (List UInt8)) : Prop where
  good : ∀ x ∈ m, partL x = true
  few : m.length ≤ 6
  clean : Clean m
  size : (textL m).length ≤ 1000
  parts : parts5 (textL m) = m
  count : (textL m).count 47 = m.length
theorem six_of (l : List (List UInt8)) : Six (mk6 l) := by
  obtain ⟨h1, h2⟩ := mk6_fine l
  have hc := clean_of h1
  exact ⟨h1, h2, hc, by have := text_small (l := mk6 l) (fun x hx => (part_short (h1 x hx)).1); omega, parts_text hc, count_text hc⟩

set_option maxHeartbeats 16000000 in
theorem lines05_law (la lb : List (List UInt8)) (va vb : Value) (w : World) (hD : Door w) (ha : TxsAt w va la) (hb : TxsAt w vb lb) (hla : ∀ x ∈ la, x.length ≤ 9223372036854775807) (hlb : ∀ x ∈ lb, x.length ≤ 9223372036854775807) :
    Calls Tryd.prog 6 #[va, vb] w fun e w' => e = .returned (.bool true) ∧ Upd [] w w' := by
  have HD := hd hD
  have HAW := hd (awake05_any w hD)
  have HM1 := hd (fun W (h : Upd [] w W) => lmade_any la va W (hD.later h) (ha.upd h) hla)
  have HM2 := hd (fun W (h : Upd [] w W) => lmade_any lb vb W (hD.later h) (hb.upd h) hlb)
  have S1 := six_of la
  have S2 := six_of lb
  obtain ⟨a0, c0, rfl, -⟩ := ha
  obtain ⟨b0, d0, rfl, -⟩ := hb
  generalize mk6 la = a at *
  generalize mk6 lb = b at *
  have HS1 := hd S1
  have HS2 := hd S2
  clear S1 S2 hla hlb hD
  go_enter Tryd.func6, Tryd.ntmps6
  go_wp2_with fail
  refine HAW.out.mono ?_
  rintro e w1 ⟨rfl, hu1⟩
  have HU1 := hd hu1
  clear hu1
  go_wp2_with fail
  refine (HM1.out _ HU1.out).mono ?_
  rintro e w2 ⟨u2, rfl, hu2, hr2⟩
  obtain ⟨a2, c2, rfl, -⟩ := own_open hr2
  have HU2 := hd (HU1.out.trans hu2)
  have HR2 := hd hr2
  have e0 : ∃ W k, w2.heap.size = k ∧ w2.alloc (.cells #[.string (txt (textL a))] 24) = W ∧ Upd [] w2 W ∧ Blk W k #[.string (txt (textL a))] 24 := ⟨_, _, rfl, rfl, (Upd.refl _ _).alloc _, Blk.new _ _ _⟩
  clear hu2 hr2 HU1 HM1 HAW
  go_upto_region 4 with fail
  obtain ⟨W3, k, hk, hW3, hu3, hb3⟩ := e0
  rw [hW3, hk]
  have HU3 := hd (HU2.out.trans hu3)
  have HB3 := hd hb3
  have HR3 := hd ((row_strs HR2.out).upd hu3)
  clear hW3 hk hu3 hb3 HU2 HR2
  go_wp2_with fail
  refine (HM2.out _ HU3.out).mono ?_
  rintro e w4 ⟨u4, rfl, hu4, hr4⟩
  obtain ⟨a4, c4, rfl, -⟩ := own_open hr4
  have HU4 := hd (HU3.out.trans hu4)
  have HR4 := hd hr4
  have HB4 := hd (HB3.out.upd hu4 (by simp))
  have HA4 := hd (HR3.out.upd hu4)
  have e0 : ∃ W j, w4.heap.size = j ∧ w4.alloc (.cells #[.string (txt (textL b))] 24) = W ∧ Upd [] w4 W ∧ Blk W j #[.string (txt (textL b))] 24 := ⟨_, _, rfl, rfl, (Upd.refl _ _).alloc _, Blk.new _ _ _⟩
  clear hu4 hr4 HM2 HU3 HB3 HR3
  go_upto_region 5 with fail
  obtain ⟨W5, j, hj, hW5, hu5, hb5⟩ := e0
  rw [hW5, hj]
  have HU5 := hd (HU4.out.trans hu5)
  have HBA := hd (HB4.out.upd hu5 (by simp))
  have HBB := hd hb5
  have HTA := hd (HA4.out.upd hu5)
  have HTB := hd ((row_strs HR4.out).upd hu5)
  clear hW5 hj hu5 hb5 HU4 HR4 HB4 HA4
  have hka : ∀ (y : Later [] W5) o, y.world.cell? ⟨k, o, none⟩ = #[.string (txt (textL a))][o]? := fun y => (y.blk HBA.out (by simp)).cell
  have hkb : ∀ (y : Later [] W5) o, y.world.cell? ⟨j, o, none⟩ = #[.string (txt (textL b))][o]? := fun y => (y.blk HBB.out (by simp)).cell
  have o1 := overT_parts HS1.out.clean HS2.out.clean
  have o2 := overT_parts HS2.out.clean HS1.out.clean
  have HO1 := hd (fun y : Later [] W5 => pover_any (textL a) (textL b) y.world)
  have HO2 := hd (fun y : Later [] W5 => pover_any (textL b) (textL a) y.world)
  have HI := hd (fun y : Later [] W5 => pinline_any (textL a) (textL b) y.world)
  rw [o1] at HO1 HI
  rw [o2] at HO2 HI
  have HR1 := hd (fun y : Later [] W5 => rover_any a b _ _ y.world (HTA.out.upd y.upd) (HTB.out.upd y.upd))
  have HR2 := hd (fun y : Later [] W5 => rover_any b a _ _ y.world (HTB.out.upd y.upd) (HTA.out.upd y.upd))
  have HC := hd (fun y : Later [] W5 => pcompare_any (textL a) (textL b) y.world (HD.out.later (HU5.out.trans y.upd)) (by have := HS1.out.size; omega) (by have := HS2.out.size; omega))
  rw [HS1.out.parts, HS2.out.parts] at HC
  have HRC := hd (fun y : Later [] W5 => rcompare_any a b _ _ y.world (HTA.out.upd y.upd) (HTB.out.upd y.upd))
  have HSA := hd (fun y : Later [] W5 => same_any a b _ _ y.world (HTA.out.upd y.upd) (HTB.out.upd y.upd))
  have heq : ((txt (textL a)).toList == (txt (textL b)).toList) = decide (a = b) := by
    rw [txt_list, txt_list]
    by_cases h : a = b
    · subst h; simp
    · have : textL a ≠ textL b := fun e => h (text_inj HS1.out.clean HS2.out.clean e)
      rw [decide_eq_false h]
      simpa using this
  clear o1 o2
  generalize a.isPrefixOf b = x at *
  generalize b.isPrefixOf a = y at *
  generalize cmpL a b = z at *
  generalize decide (a = b) = d at *
  rcases x with _ | _ <;> rcases y with _ | _ <;> rcases d with _ | _
  all_goals
    refine wp_region_later [] (by kernel_rfl) (by kernel_rfl) ?_
    repeat (go_big_quiet_step (first
      | (go_at_call 25; first | (with_reducible refine later_call (HO1.out _)) | (with_reducible refine later_call (HO2.out _)))
      | (go_at_call 29; first | (with_reducible refine later_call (HR1.out _)) | (with_reducible refine later_call (HR2.out _)))
      | (go_at_call 27; refine later_call (HI.out _))
      | (go_at_call 28; refine later_call (HC.out _))
      | (go_at_call 30; refine later_call (HRC.out _))
      | (go_at_call 14; refine later_call (HSA.out _))))
    refine wpQuiet_nil ?_
    intro W9 hu9
    go_wp2_with fail
    go_ret
    exact ⟨rfl, HU5.out.trans hu9⟩
end Go.Proofs.YtfhmdeamhmjddaaDoor
