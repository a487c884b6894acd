/-
  The law PathUps of layer 5, walked: it answers true. Conditions: the list reads as a list; the library's variables hold what they are laid to hold.
-/
import Derived.Test.YtfhmdeamhmjddaaDoorLines05
set_option linter.unusedVariables false
set_option linter.unusedSimpArgs false
set_option maxRecDepth 100000
namespace Go.Proofs.YtfhmdeamhmjddaaDoor
open Go.RowKit

theorem up_text {l : List (List UInt8)} {x : List UInt8} (hx : (47 : UInt8) ∉ x) : upT (textL (l ++ [x])) = textL l := by
  unfold upT
  rw [last_text hx, show (max ((textL l).length : Int) 0).toNat = (textL l).length by omega, text_take]
theorem up_none : upT [] = [] := rfl
theorem six_drop {l : List (List UInt8)} (h : Six l) (k : Nat) : Six (l.take k) := by
  have h1 : ∀ x ∈ l.take k, partL x = true := fun x hx => h.good x (List.mem_of_mem_take hx)
  have h2 : (l.take k).length ≤ 6 := by rw [List.length_take]; have := h.few; omega
  have hc := clean_of h1
  exact ⟨h1, h2, hc, by have := text_small (l := l.take k) (fun x hx => (part_short (h1 x hx)).1); omega, parts_text hc, count_text hc⟩
theorem cmpL_shorter : ∀ (a : List (List UInt8)) (x : List UInt8), cmpL a (a ++ [x]) = -1
  | [], _ => rfl
  | y :: a, x => by
    show cmpL (y :: a) (y :: (a ++ [x])) = -1
    unfold cmpL
    have : cmpS y y = 0 := by
      unfold cmpS
      have hi : ∀ z : List UInt8, Op.bytesLess z z = false := fun z => by
        induction z with
        | nil => rfl
        | cons c z ih => simp [Op.bytesLess, ih]
      rw [hi]; simp
    rw [if_pos this, cmpL_shorter a x]

set_option maxHeartbeats 16000000 in
theorem ups05_law (la : List (List UInt8)) (va : Value) (w : World) (hD : Door w) (ha : TxsAt w va la) (hla : ∀ x ∈ la, x.length ≤ 9223372036854775807) :
    Calls Tryd.prog 9 #[va] w fun e w' => e = .returned (.bool true) ∧ Upd [] w w' := by
  have HD := hd hD
  have HAW := hd (awake05_any w hD)
  have HM1 := hd (fun W (h : Upd [] w W) => lmade_any la va W (hD.later h) (ha.upd h) hla)
  have S1 := six_of la
  obtain ⟨a0, c0, rfl, -⟩ := ha
  generalize mk6 la = a at *
  have HS1 := hd S1
  have HSK := hd (fun k => six_drop S1 k)
  clear S1 hla hD
  go_enter Tryd.func9, Tryd.ntmps9
  go_wp2_with fail
  refine HAW.out.mono ?_
  rintro e w1 ⟨rfl, hu1⟩
  have HU1 := hd hu1
  clear hu1
  go_wp2_with fail
  refine (HM1.out _ HU1.out).mono ?_
  rintro e w2 ⟨u2, rfl, hu2, hr2⟩
  obtain ⟨a2, c2, rfl, -⟩ := own_open hr2
  have HU2 := hd (HU1.out.trans hu2)
  have e0 : ∃ W k, w2.heap.size = k ∧ w2.alloc (.cells #[.string (txt (textL a))] 24) = W ∧ Upd [] w2 W ∧ Blk W k #[.string (txt (textL a))] 24 := ⟨_, _, rfl, rfl, (Upd.refl _ _).alloc _, Blk.new _ _ _⟩
  have hs1 := HU2.out.size
  clear hu2 hr2 HU1 HM1 HAW
  go_upto_region 4 with fail
  obtain ⟨W3, k, hk, hW3, hu3, hb3⟩ := e0
  rw [hW3, hk]
  have HKL := hd (show w.heap.size ≤ k by omega)
  have HU3 := hd (HU2.out.trans hu3)
  have HB3 := hd hb3
  clear hW3 hk hu3 hb3 HU2 hs1
  go_upto_block 0 with fail
  go_cut [] (fun wx => Upd [] w wx ∧ Blk wx k #[.string (txt [])] 24)
  case first =>
    go_wp2_with fail
    go_loopw [5] (fun c wr => ∃ t : Nat, c = .int .i64 t ∧ t ≤ a.length ∧ Upd [] w wr ∧ Blk wr k #[.string (txt (textL (a.take t)))] 24) (fun c _ => (intOf c).toNat)
    case atStart => exact ⟨a.length, rfl, by omega, HU3.out, by rw [List.take_length]; exact HB3.out⟩
    case round =>
      obtain ⟨t, rfl, ht, hu, hb⟩ := hrel
      have HU := hd hu
      have HB := hd hb
      clear hu hb
      rcases t with _ | t
      · have h0 : textL (a.take 0) = [] := rfl
        rw [h0] at HB
        go_wp2_with fail
        go_meet
        case rel => exact ⟨HU.out, HB.out⟩
      · have ht0 : 0 < (t : Int) + 1 := by omega
        have htl : t < a.length := by omega
        have hsn : a.take (t + 1) = a.take t ++ [a[t]] := List.take_succ_eq_append_getElem htl
        have S0 := HSK.out t
        have S1 := HSK.out (t + 1)
        have hx47 := HS1.out.clean a[t] (List.getElem_mem _)
        have HUPT := hd (fun W => pup_any (textL (a.take (t + 1))) W (by have := S1.size; omega))
        have hup : upT (textL (a.take (t + 1))) = textL (a.take t) := by rw [hsn, up_text hx47]
        rw [hup] at HUPT
        have HDP := hd (pdepth_any (textL (a.take t)))
        rw [S0.count, List.length_take, Nat.min_eq_left (by omega)] at HDP
        have HO1 := hd (pover_any (textL (a.take t)) (textL (a.take (t + 1))))
        have HO2 := hd (pover_any (textL (a.take (t + 1))) (textL (a.take t)))
        have o1 : overT (textL (a.take t)) (textL (a.take (t + 1))) = true := by
          rw [overT_parts S0.clean S1.clean, List.isPrefixOf_iff_prefix, hsn]
          exact List.prefix_append _ _
        have o2 : overT (textL (a.take (t + 1))) (textL (a.take t)) = false := by
          rw [overT_parts S1.clean S0.clean, Bool.eq_false_iff]
          intro h
          have := (List.isPrefixOf_iff_prefix.1 h).length_le
          rw [List.length_take, List.length_take] at this
          omega
        rw [o1] at HO1
        rw [o2] at HO2
        have HCM := hd (fun W (h : Door W) => pcompare_any (textL (a.take t)) (textL (a.take (t + 1))) W h (by have := S0.size; omega) (by have := S1.size; omega))
        rw [S0.parts, S1.parts, hsn, cmpL_shorter, ← hsn] at HCM
        clear S0 S1 hup o1 o2 hsn hx47
        generalize textL (a.take (t + 1)) = T1 at *
        obtain ⟨T0, hT0⟩ : ∃ T0, T0 = textL (a.take t) := ⟨_, rfl⟩
        rw [← hT0] at HUPT HDP HO1 HO2 HCM
        have HT0 := hd hT0
        clear hT0
        have hbc := HB.out.cell
        have hkz := HB.out.frozen
        go_wp2_with fail
        refine (HUPT.out _).mono ?_
        rintro e w5 ⟨rfl, hu5⟩
        have e5 : ∃ W j, w5.heap.size = j ∧ w5.alloc (.cells #[.string (txt T0)] 24) = W ∧ Upd [] w5 W ∧ Blk W j #[.string (txt T0)] 24 := ⟨_, _, rfl, rfl, (Upd.refl _ _).alloc _, Blk.new _ _ _⟩
        have hkw5 : k < w5.heap.size := Nat.lt_of_lt_of_le HB.out.lt hu5.size
        go_upto_region 8 with fail
        obtain ⟨W6, j, hj, hW6, hu6, hb6⟩ := e5
        rw [hW6, hj]
        have hjk : ¬ k = j := by omega
        have hjk' : ¬ j = k := by omega
        have HU6 := hd ((HU.out.trans hu5).trans hu6)
        have HB6 := hd (HB.out.upd (hu5.trans hu6) (by simp))
        have HJ6 := hd hb6
        have hbc6 := HB6.out.cell
        have hjc6 := HJ6.out.cell
        clear hbc hkz hu5 hu6 hb6 hj hW6 hkw5
        go_wp2_with fail
        refine (HDP.out _).mono ?_
        rintro e w7 ⟨rfl, hu7⟩
        have HTT := hd (And.intro ht htl)
        have ht6 : (t : Int) ≤ 6 := by have := HS1.out.few; omega
        clear ht htl
        have HU7 := hd (HU6.out.trans hu7)
        have HB7 := hd (HB6.out.upd hu7 (by simp))
        have HJ7 := hd (HJ6.out.upd hu7 (by simp))
        have hbc7 := HB7.out.cell
        have hjc7 := HJ7.out.cell
        clear hbc6 hjc6 hu7
        go_wp2_with fail
        refine (HO1.out _).mono ?_
        rintro e w8 ⟨rfl, hu8⟩
        have HU8 := hd (HU7.out.trans hu8)
        have HB8 := hd (HB7.out.upd hu8 (by simp))
        have HJ8 := hd (HJ7.out.upd hu8 (by simp))
        have hbc8 := HB8.out.cell
        have hjc8 := HJ8.out.cell
        clear hbc7 hjc7 hu8
        go_wp2_with fail
        refine (HO2.out _).mono ?_
        rintro e w9 ⟨rfl, hu9⟩
        have HU9 := hd (HU8.out.trans hu9)
        have HB9 := hd (HB8.out.upd hu9 (by simp))
        have HJ9 := hd (HJ8.out.upd hu9 (by simp))
        have hbc9 := HB9.out.cell
        have hjc9 := HJ9.out.cell
        clear hbc8 hjc8 hu9
        go_wp2_with fail
        refine (HCM.out _ (HD.out.later HU9.out)).mono ?_
        rintro e w10 ⟨rfl, hu10⟩
        have HU10 := hd (HU9.out.trans hu10)
        have HB10 := hd (HB9.out.upd hu10 (by simp))
        have HJ10 := hd (HJ9.out.upd hu10 (by simp))
        have hbc10 := HB10.out.cell
        have hbz10 := HB10.out.frozen
        have hjc10 := HJ10.out.cell
        have hux : Upd [k] w10 (w10.setCell ⟨k, 0, none⟩ (.string (txt T0))) := (Upd.refl _ _).setCell (by simp) _
        have HUX := hd (HU10.out.trans' hux (by intro i hi; have := HKL.out; simp only [List.mem_cons, List.not_mem_nil, or_false] at hi; omega))
        have HBX := hd (HB10.out.set 0 (.string (txt T0)))
        clear hbc9 hjc9 hu10 hux
        go_wp2_with fail
        go_roundw
        case rel => exact ⟨t, by go_num, by have := HTT.out; omega, HUX.out, by rw [← HT0.out]; exact HBX.out⟩
        case measure => (first | (simp only [intOf]; omega) | (unfold intOf; dsimp only; omega))
  case rest =>
    obtain ⟨hu, hb⟩ := hcut
    have HU := hd hu
    have HB := hd hb
    clear hu hb HB3 HU3
    have hka : ∀ (y : Later [] wc) o, y.world.cell? ⟨k, o, none⟩ = #[.string (txt [])][o]? := fun y => (y.blk HB.out (by simp)).cell
    have HUP := hd (fun y : Later [] wc => pup_any [] y.world (by decide))
    rw [up_none] at HUP
    have HTX := hd (fun y : Later [] wc => ptext_any [] y.world)
    rw [if_pos rfl] at HTX
    have he1 : ((txt []).toList == []) = true := by rw [txt_list]; rfl
    have he2 : (txt []).toList.isEmpty = true := by rw [txt_list]; rfl
    have he3 : ((txt [47]).toList == [47]) = true := by rw [txt_list]; rfl
    have he4 : ((txt []).toList == (txt []).toList) = true := by simp
    go_upto_region 11 with fail
    refine wp_region_later [] (by kernel_rfl) (by kernel_rfl) ?_
    repeat (go_big_quiet_step (first
      | (go_at_call 35; refine later_call (HUP.out _))
      | (go_at_call 16; refine later_call (HTX.out _))))
    refine wpQuiet_nil ?_
    intro W9 hu9
    go_wp2_with fail
    go_ret
    exact ⟨rfl, HU.out.trans hu9⟩
end Go.Proofs.YtfhmdeamhmjddaaDoor
