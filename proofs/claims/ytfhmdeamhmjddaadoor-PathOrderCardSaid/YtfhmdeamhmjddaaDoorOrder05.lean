/-
  The law PathOrder of layer 5, walked: it answers true. Conditions: the lists read as lists; the library's variables hold what they are laid to hold.
-/
import Derived.Test.YtfhmdeamhmjddaaDoorLines05
import Derived.Test.YtfhmdeamhmjddaaDoorPlain05c
set_option linter.unusedVariables false
set_option linter.unusedSimpArgs false
set_option maxRecDepth 100000
namespace Go.Proofs.YtfhmdeamhmjddaaDoor
open Go.RowKit

set_option maxHeartbeats 16000000 in
theorem order05_law (la lb lc : List (List UInt8)) (va vb vc : Value) (w : World) (hD : Door w) (ha : TxsAt w va la) (hb : TxsAt w vb lb) (hc : TxsAt w vc lc) (hla : ∀ x ∈ la, x.length ≤ 9223372036854775807) (hlb : ∀ x ∈ lb, x.length ≤ 9223372036854775807) (hlc : ∀ x ∈ lc, x.length ≤ 9223372036854775807) :
    Calls Tryd.prog 5 #[va, vb, vc] w fun e w' => e = .returned (.bool true) ∧ Upd [] w w' := by
  have HD := hd hD
  have HAW := hd (awake05_any w hD)
  have HM1 := hd (fun W (h : Upd [] w W) => lmade_any la va W (hD.later h) (ha.upd h) hla)
  have HM2 := hd (fun W (h : Upd [] w W) => lmade_any lb vb W (hD.later h) (hb.upd h) hlb)
  have HM3 := hd (fun W (h : Upd [] w W) => lmade_any lc vc W (hD.later h) (hc.upd h) hlc)
  have S1 := six_of la
  have S2 := six_of lb
  have S3 := six_of lc
  obtain ⟨a0, c0, rfl, -⟩ := ha
  obtain ⟨b0, d0, rfl, -⟩ := hb
  obtain ⟨e0, f0, rfl, -⟩ := hc
  generalize mk6 la = a at *
  generalize mk6 lb = b at *
  generalize mk6 lc = c at *
  have HS1 := hd S1
  have HS2 := hd S2
  have HS3 := hd S3
  clear S1 S2 S3 hla hlb hlc hD
  go_enter Tryd.func5, Tryd.ntmps5
  go_wp2_with fail
  refine HAW.out.mono ?_
  rintro e w1 ⟨rfl, hu1⟩
  have HU1 := hd hu1
  clear hu1
  go_wp2_with fail
  refine (HM1.out _ HU1.out).mono ?_
  rintro e w2 ⟨u2, rfl, hu2, hr2⟩
  obtain ⟨a2, c2, rfl, -⟩ := own_open hr2
  have HU2 := hd (HU1.out.trans hu2)
  have e0 : ∃ W k, w2.heap.size = k ∧ w2.alloc (.cells #[.string (txt (textL a))] 24) = W ∧ Upd [] w2 W ∧ Blk W k #[.string (txt (textL a))] 24 := ⟨_, _, rfl, rfl, (Upd.refl _ _).alloc _, Blk.new _ _ _⟩
  clear hu2 hr2
  go_upto_region 4 with fail
  obtain ⟨W2, k, hk, hW, hu, hb⟩ := e0
  rw [hW, hk]
  have HV2 := hd (HU2.out.trans hu)
  have HN2 := hd hb
  clear hW hk hu hb HU2
  go_wp2_with fail
  refine (HM2.out _ HV2.out).mono ?_
  rintro e w3 ⟨u3, rfl, hu3, hr3⟩
  obtain ⟨a3, c3, rfl, -⟩ := own_open hr3
  have HU3 := hd (HV2.out.trans hu3)
  have HK3 := hd (HN2.out.upd hu3 (by simp))
  have e0 : ∃ W k, w3.heap.size = k ∧ w3.alloc (.cells #[.string (txt (textL b))] 24) = W ∧ Upd [] w3 W ∧ Blk W k #[.string (txt (textL b))] 24 := ⟨_, _, rfl, rfl, (Upd.refl _ _).alloc _, Blk.new _ _ _⟩
  clear hu3 hr3
  go_upto_region 5 with fail
  obtain ⟨W3, j, hk, hW, hu, hb⟩ := e0
  rw [hW, hk]
  have HV3 := hd (HU3.out.trans hu)
  have HN3 := hd hb
  have HNK3 := hd (HK3.out.upd hu (by simp))
  clear hW hk hu hb HU3
  go_wp2_with fail
  refine (HM3.out _ HV3.out).mono ?_
  rintro e w4 ⟨u4, rfl, hu4, hr4⟩
  obtain ⟨a4, c4, rfl, -⟩ := own_open hr4
  have HU4 := hd (HV3.out.trans hu4)
  have HK4 := hd (HNK3.out.upd hu4 (by simp))
  have HJ4 := hd (HN3.out.upd hu4 (by simp))
  have e0 : ∃ W k, w4.heap.size = k ∧ w4.alloc (.cells #[.string (txt (textL c))] 24) = W ∧ Upd [] w4 W ∧ Blk W k #[.string (txt (textL c))] 24 := ⟨_, _, rfl, rfl, (Upd.refl _ _).alloc _, Blk.new _ _ _⟩
  clear hu4 hr4
  go_upto_region 6 with fail
  obtain ⟨W4, i, hk, hW, hu, hb⟩ := e0
  rw [hW, hk]
  have HV4 := hd (HU4.out.trans hu)
  have HN4 := hd hb
  have HNK4 := hd (HK4.out.upd hu (by simp))
  have HNJ4 := hd (HJ4.out.upd hu (by simp))
  clear hW hk hu hb HU4
  have hka : ∀ (y : Later [] W4) o, y.world.cell? ⟨k, o, none⟩ = #[.string (txt (textL a))][o]? := fun y => (y.blk HNK4.out (by simp)).cell
  have hkb : ∀ (y : Later [] W4) o, y.world.cell? ⟨j, o, none⟩ = #[.string (txt (textL b))][o]? := fun y => (y.blk HNJ4.out (by simp)).cell
  have hkc : ∀ (y : Later [] W4) o, y.world.cell? ⟨i, o, none⟩ = #[.string (txt (textL c))][o]? := fun y => (y.blk HN4.out (by simp)).cell
  have HC1 := hd (fun W (h : Upd [] W4 W) => pcompare_any (textL a) (textL b) W (HD.out.later (HV4.out.trans h)) (by have := HS1.out.size; omega) (by have := HS2.out.size; omega))
  have HC2 := hd (fun W (h : Upd [] W4 W) => pcompare_any (textL b) (textL a) W (HD.out.later (HV4.out.trans h)) (by have := HS2.out.size; omega) (by have := HS1.out.size; omega))
  have HC3 := hd (fun W (h : Upd [] W4 W) => pcompare_any (textL b) (textL c) W (HD.out.later (HV4.out.trans h)) (by have := HS2.out.size; omega) (by have := HS3.out.size; omega))
  have HC4 := hd (fun W (h : Upd [] W4 W) => pcompare_any (textL a) (textL c) W (HD.out.later (HV4.out.trans h)) (by have := HS1.out.size; omega) (by have := HS3.out.size; omega))
  have HO1 := hd (fun W => pover_any (textL a) (textL c) W)
  have HO2 := hd (fun W => pover_any (textL a) (textL b) W)
  rw [HS1.out.parts, HS2.out.parts] at HC1
  rw [HS1.out.parts, HS2.out.parts] at HC2
  rw [HS3.out.parts, HS2.out.parts] at HC3
  rw [HS1.out.parts, HS3.out.parts] at HC4
  rw [overT_parts HS1.out.clean HS3.out.clean] at HO1
  rw [overT_parts HS1.out.clean HS2.out.clean] at HO2
  have HP1 := hd (cmpL_anti a b)
  have HP2 := hd (cmpL_trans (a := a) (b := b) (c := c))
  have HP3 := hd (show a.isPrefixOf c = true → cmpL a b ≤ 0 → cmpL b c ≤ 0 → a.isPrefixOf b = true from fun h h1 h2 => List.isPrefixOf_iff_prefix.2 (cmpL_between (List.isPrefixOf_iff_prefix.1 h) h1 h2))
  have HQ := hd (show ∀ z : List (List UInt8) , -1 ≤ cmpL a z ∧ cmpL a z ≤ 1 from fun z => cmpL_range a z)
  have hr1 := cmpL_range b a
  have hr2 := cmpL_range a b
  have HRG := hd (And.intro hr1 hr2)
  clear hr1 hr2
  generalize cmpL b a = z2 at *
  generalize hz1 : cmpL a b = z1 at *
  generalize cmpL b c = z3 at *
  generalize hz4 : cmpL a c = z4 at *
  generalize a.isPrefixOf c = x at *
  generalize a.isPrefixOf b = y at *
  clear hz1 hz4
  obtain rfl : z2 = -z1 := by have := HP1.out; omega
  have HD1 := hd (fun y' : Later [] W4 => HC1.out y'.world y'.upd)
  have HD2 := hd (fun y' : Later [] W4 => HC2.out y'.world y'.upd)
  have HD3 := hd (fun y' : Later [] W4 => HC3.out y'.world y'.upd)
  have HD4 := hd (fun y' : Later [] W4 => HC4.out y'.world y'.upd)
  have hrg1 := HRG.out.2.1
  have hrg2 := HRG.out.2.2
  go_cut [55] (fun s55 wx => s55 = .bool false ∧ Upd [] W4 wx)
  case first =>
    by_cases h3 : z3 ≤ 0
    · have HZ4 := hd (show z1 ≤ 0 → z4 ≤ 0 from fun h => HP2.out h h3)
      rcases (by omega : z1 = -1 ∨ z1 = 0 ∨ z1 = 1) with rfl | rfl | rfl
      · have h4 : ¬ 0 < z4 := by have := HZ4.out (by decide); omega
        refine wp_region_later [] (by kernel_rfl) (by kernel_rfl) ?_
        repeat (go_big_quiet_step ((go_at_call 28; first | (with_reducible refine later_call (HD1.out _)) | (with_reducible refine later_call (HD2.out _)) | (with_reducible refine later_call (HD3.out _)) | (with_reducible refine later_call (HD4.out _)))))
        refine wpQuiet_nil ?_
        intro W9 hu9
        go_wp2_with fail
        go_meet
        case rel => exact ⟨rfl, hu9⟩
      · have h4 : ¬ 0 < z4 := by have := HZ4.out (by decide); omega
        refine wp_region_later [] (by kernel_rfl) (by kernel_rfl) ?_
        repeat (go_big_quiet_step ((go_at_call 28; first | (with_reducible refine later_call (HD1.out _)) | (with_reducible refine later_call (HD2.out _)) | (with_reducible refine later_call (HD3.out _)) | (with_reducible refine later_call (HD4.out _)))))
        refine wpQuiet_nil ?_
        intro W9 hu9
        go_wp2_with fail
        go_meet
        case rel => exact ⟨rfl, hu9⟩
      · skip
        refine wp_region_later [] (by kernel_rfl) (by kernel_rfl) ?_
        repeat (go_big_quiet_step ((go_at_call 28; first | (with_reducible refine later_call (HD1.out _)) | (with_reducible refine later_call (HD2.out _)) | (with_reducible refine later_call (HD3.out _)) | (with_reducible refine later_call (HD4.out _)))))
        refine wpQuiet_nil ?_
        intro W9 hu9
        go_wp2_with fail
        go_meet
        case rel => exact ⟨rfl, hu9⟩
    · rcases (by omega : z1 = -1 ∨ z1 = 0 ∨ z1 = 1) with rfl | rfl | rfl
      · skip
        refine wp_region_later [] (by kernel_rfl) (by kernel_rfl) ?_
        repeat (go_big_quiet_step ((go_at_call 28; first | (with_reducible refine later_call (HD1.out _)) | (with_reducible refine later_call (HD2.out _)) | (with_reducible refine later_call (HD3.out _)) | (with_reducible refine later_call (HD4.out _)))))
        refine wpQuiet_nil ?_
        intro W9 hu9
        go_wp2_with fail
        go_meet
        case rel => exact ⟨rfl, hu9⟩
      · skip
        refine wp_region_later [] (by kernel_rfl) (by kernel_rfl) ?_
        repeat (go_big_quiet_step ((go_at_call 28; first | (with_reducible refine later_call (HD1.out _)) | (with_reducible refine later_call (HD2.out _)) | (with_reducible refine later_call (HD3.out _)) | (with_reducible refine later_call (HD4.out _)))))
        refine wpQuiet_nil ?_
        intro W9 hu9
        go_wp2_with fail
        go_meet
        case rel => exact ⟨rfl, hu9⟩
      · skip
        refine wp_region_later [] (by kernel_rfl) (by kernel_rfl) ?_
        repeat (go_big_quiet_step ((go_at_call 28; first | (with_reducible refine later_call (HD1.out _)) | (with_reducible refine later_call (HD2.out _)) | (with_reducible refine later_call (HD3.out _)) | (with_reducible refine later_call (HD4.out _)))))
        refine wpQuiet_nil ?_
        intro W9 hu9
        go_wp2_with fail
        go_meet
        case rel => exact ⟨rfl, hu9⟩
  case rest =>
    obtain ⟨rfl, hu⟩ := hcut
    clear hka hkb hkc
    have HBA := hd (HNK4.out.upd hu (by simp))
    have HBB := hd (HNJ4.out.upd hu (by simp))
    have HBC := hd (HN4.out.upd hu (by simp))
    have HUW := hd hu
    have hca := HBA.out.cell
    have hcb := HBB.out.cell
    have hcc := HBC.out.cell
    clear hu
    rcases x with _ | _
    · go_wp2_with fail
      refine (HO1.out _).mono ?_
      rintro e w5 ⟨rfl, hu5⟩
      go_wp2_with fail
      go_ret
      exact ⟨rfl, (HV4.out.trans HUW.out).trans hu5⟩
    · have HP4 := hd (HP3.out rfl)
      go_wp2_with fail
      refine (HO1.out _).mono ?_
      rintro e w5 ⟨rfl, hu5⟩
      have hca5 := (HBA.out.upd hu5 (by simp)).cell
      have hcb5 := (HBB.out.upd hu5 (by simp)).cell
      have hcc5 := (HBC.out.upd hu5 (by simp)).cell
      have HA5 := hd (HBA.out.upd hu5 (by simp))
      have HB5 := hd (HBB.out.upd hu5 (by simp))
      have HC5 := hd (HBC.out.upd hu5 (by simp))
      have HU5 := hd (HUW.out.trans hu5)
      clear hca hcb hcc hu5
      by_cases h1 : 0 < z1
      · go_wp2_with fail
        refine (HC1.out _ HU5.out).mono ?_
        rintro e w6 ⟨rfl, hu6⟩
        go_wp2_with fail
        go_ret
        exact ⟨rfl, HV4.out.trans (HU5.out.trans hu6)⟩
      · go_wp2_with fail
        refine (HC1.out _ HU5.out).mono ?_
        rintro e w6 ⟨rfl, hu6⟩
        have hca6 := (HA5.out.upd hu6 (by simp)).cell
        have hcb6 := (HB5.out.upd hu6 (by simp)).cell
        have hcc6 := (HC5.out.upd hu6 (by simp)).cell
        have HA6 := hd (HA5.out.upd hu6 (by simp))
        have HB6 := hd (HB5.out.upd hu6 (by simp))
        have HU6 := hd (HU5.out.trans hu6)
        clear hca5 hcb5 hcc5 hu6
        by_cases h3 : 0 < z3
        · go_wp2_with fail
          refine (HC3.out _ HU6.out).mono ?_
          rintro e w7 ⟨rfl, hu7⟩
          go_wp2_with fail
          go_ret
          exact ⟨rfl, HV4.out.trans (HU6.out.trans hu7)⟩
        · obtain rfl : y = true := HP4.out (by omega) (by omega)
          go_wp2_with fail
          refine (HC3.out _ HU6.out).mono ?_
          rintro e w7 ⟨rfl, hu7⟩
          have hca7 := (HA6.out.upd hu7 (by simp)).cell
          have hcb7 := (HB6.out.upd hu7 (by simp)).cell
          have HU7 := hd (HU6.out.trans hu7)
          clear hca6 hcb6 hcc6 hu7
          go_wp2_with fail
          refine (HO2.out _).mono ?_
          rintro e w8 ⟨rfl, hu8⟩
          go_wp2_with fail
          go_ret
          exact ⟨rfl, HV4.out.trans (HU7.out.trans hu8)⟩
end Go.Proofs.YtfhmdeamhmjddaaDoor
