/-
  The law RouteFinds of layer 6, walked: it answers true. Conditions: the lists read as lists; the library's variables hold what they are laid to hold.
-/
import Derived.Test.YtfhmdeamhmjddaaDoorRoute4
import Derived.Test.YtfhmdeamhmjddaaDoorPlain07
set_option linter.unusedVariables false
set_option linter.unusedSimpArgs false
set_option maxRecDepth 100000
namespace Go.Proofs.YtfhmdeamhmjddaaDoor
open Go.RowKit

set_option maxHeartbeats 4000000 in
theorem prefix_out (B k : Nat) (l : List (List UInt8)) (w : World) (h : TabAt B w k l) (n : Int) (hn : n < 0 ∨ (l.length : Int) ≤ n) :
    Calls Tryd.prog 24 #[.pointer (some ⟨k, 0, none⟩), .int .i64 n] w fun e w' => e = .returned (.agg #[.string ⟨#[]⟩]) ∧ Upd [] w w' := by
  obtain ⟨v, hb, hrow⟩ := h
  obtain ⟨a, c, rfl, -⟩ := own_open hrow
  have e0 : ∃ W j, w.heap.size = j ∧ w.alloc (.cells #[.string ⟨#[]⟩] 24) = W ∧ Upd [] w W ∧ Blk W j #[.string ⟨#[]⟩] 24 ∧ Blk W k #[.slice a l.length c] 77 :=
    ⟨_, _, rfl, rfl, (Upd.refl _ _).alloc _, Blk.new _ _ _, hb.alloc _⟩
  have hkw := hb.lt
  clear hrow hb
  generalize l.length = m at *
  have HN := hd hn
  clear hn
  go_enter Tryd.func24, Tryd.ntmps24
  go_upto_region 1 with fail
  obtain ⟨W, j, hj, hW, hu, hbj, hbk⟩ := e0
  rw [hW, hj]
  have hkj : ¬ k = j := by omega
  have hjk : ¬ j = k := by omega
  have HU := hd hu
  have HJ := hd (show w.heap.size ≤ j by omega)
  have HBJ := hd hbj
  have hck := hbk.cell
  have hcj := hbj.cell
  have hzj := hbj.frozen
  clear hW hj hu hbj hbk
  by_cases h0 : n < 0
  · go_wp2_with fail
    have HF := hd (show Blk (W.setCell ⟨j, 0, none⟩ (.string ⟨#[]⟩)) j #[.string ⟨#[]⟩] 24 from (HBJ.out.set 0 (.string ⟨#[]⟩)))
    refine bodyPost_ret (results_pre _ rfl _ _ j _ rfl HF.out) rfl ?_
    exact ⟨rfl, HU.out.setCell (.inr HJ.out) _⟩
  · have h1 : (m : Int) ≤ n := by have := HN.out; omega
    go_wp2_with fail
    have HF := hd (show Blk (W.setCell ⟨j, 0, none⟩ (.string ⟨#[]⟩)) j #[.string ⟨#[]⟩] 24 from (HBJ.out.set 0 (.string ⟨#[]⟩)))
    refine bodyPost_ret (results_pre _ rfl _ _ j _ rfl HF.out) rfl ?_
    exact ⟨rfl, HU.out.setCell (.inr HJ.out) _⟩
theorem fewL_short (l : List (List UInt8)) : ∀ x ∈ fewL l, x.length ≤ 100000 := by
  intro x hx
  obtain ⟨y, -, rfl⟩ := List.mem_map.1 hx
  rw [List.length_take]
  omega

set_option maxHeartbeats 16000000 in
theorem route_finds_law (ll lb : List (List UInt8)) (vl vb : Value) (n : Int) (w : World) (hD : Door w) (hl : TxsAt w vl ll) (hb : TxsAt w vb lb)
    (hll : ∀ x ∈ ll, x.length ≤ 9223372036854775807) (hlb : ∀ x ∈ lb, x.length ≤ 9223372036854775807) :
    Calls Tryd.prog 7 #[vl, vb, .int .i64 n] w fun e w' => e = .returned (.bool true) ∧ Upd [] w w' := by
  have HD := hd hD
  have HAW := hd (awake06_any w hD)
  have HFW := hd (fun W (h : Upd [] w W) => few_any ll vl W (hl.upd h))
  have HNW := hd (fun v W (h : Upd [] w W) (hv : TxsAt W v (fewL ll)) => new06_any _ v W (hD.later h) hv (fewL_small ll))
  have HRN := hd (fun v W (hv : TxsAt W v (fewL ll)) => rnew_any _ v W hv (fewL_short ll))
  have HM := hd (fun W (h : Upd [] w W) => lmade_any lb vb W (hD.later h) (hb.upd h) hlb)
  have HST := hd (same_table (fewL ll))
  have S1 := six_of lb
  obtain ⟨l0, n0, rfl, -⟩ := hl
  obtain ⟨b0, d0, rfl, -⟩ := hb
  generalize mk6 lb = b at *
  generalize fewL ll = fl at *
  have HS1 := hd S1
  clear S1 hll hlb hD
  go_enter Tryd.func7, Tryd.ntmps7
  go_wp2_with fail
  refine HAW.out.mono ?_
  rintro e w1 ⟨rfl, hu1⟩
  have HU1 := hd hu1
  clear hu1
  go_wp2_with fail
  refine (HFW.out _ HU1.out).mono ?_
  rintro e w2 ⟨u2, rfl, hu2, hr2⟩
  have HR2 := hd (row_strs hr2)
  obtain ⟨a2, c2, rfl, -⟩ := own_open hr2
  have HU2 := hd (HU1.out.trans hu2)
  clear hu2 hr2 HFW HAW
  go_wp2_with fail
  refine (HNW.out _ _ HU2.out HR2.out).mono ?_
  rintro e w3 ⟨pv, ev, rfl, hu3, hans⟩
  have HU3 := hd (HU2.out.trans hu3)
  have HR3 := hd (HR2.out.upd hu3)
  clear hu3 HNW HR2
  rcases HST.out with ⟨er, cr, h1, h2, h3, h4, h6, tr, h5⟩ | ⟨ps, h1, h2, h3⟩
  · rw [h1] at hans
    rw [h2] at HRN
    obtain ⟨rfl, hev⟩ := hans
    have hsh : ∃ k, ev = .iface 67 (.pointer (some ⟨k, 0, none⟩)) := by
      cases er with
      | nil => exact absurd h3.symm h4
      | cons x r => obtain ⟨k, u, h1, -⟩ := hev; exact ⟨k, h1⟩
    have HEV := hd hev
    have HER := hd (And.intro h3 h5)
    have hcn : (cr != 0) = true := by simpa using h4
    have HE6 := hd h6
    clear hev h1 h2 h3 h4 h5 h6 HST
    obtain ⟨kk, rfl⟩ := hsh
    go_wp2_with fail
    refine (HRN.out _ _ HR3.out).mono ?_
    rintro e w4 ⟨u4, c4, rfl, hu4, rfl, rfl⟩
    have HU4 := hd (HU3.out.trans hu4)
    have HEV4 := hd (HEV.out.upd hu4)
    have HTR := hd (ftrail_any _ _ w4 HEV4.out HE6.out)
    rw [HER.out.2] at HTR
    clear hu4
    go_wp2_with fail
    refine HTR.out.mono ?_
    rintro e w5 ⟨u5, rfl, hu5, hr5⟩
    have HU5 := hd (HU4.out.trans hu5)
    obtain ⟨a5, c5, rfl, hn5, hm5, h35⟩ := own_open hr5
    obtain ⟨g5, rfl, hg5, hgl5, hcl5, -⟩ := h35 (by simp)
    have hc50 : w5.cell? ⟨g5, 0, none⟩ = some (.string (txt [114, 111, 117, 116, 101])) := by rw [hcl5 0 (by simp)]; rfl
    have HCD := hd (fcode_any _ _ w5 (HD.out.later HU5.out) (HEV4.out.upd hu5))
    rw [HER.out.1] at HCD
    have HCX := hd (fun w6 (h : Upd [] w5 w6) => show w6.cell? ⟨g5, 0, none⟩ = some (.string (txt [114, 111, 117, 116, 101])) from by rw [← hc50]; exact World.cell?_of_block (h.block g5 hgl5 (by simp)))
    have hlit : ((txt [114, 111, 117, 116, 101]).toList == [114, 111, 117, 116, 101]) = true := by rw [txt_list]; rfl
    clear hu5 hr5 hcl5 h35 hc50
    go_wp2_with fail
    refine HCD.out.mono ?_
    rintro e w6 ⟨rfl, hu6⟩
    have hc60 := HCX.out _ hu6
    have HU6 := hd (HU5.out.trans hu6)
    clear hu6
    go_wp2_with fail
    go_ret
    exact ⟨rfl, HU6.out⟩
  · rw [h1] at hans
    rw [h2] at HRN
    obtain ⟨kt, rfl, rfl, -, htab⟩ := hans
    have hcl := parseAll_clean h3
    have hlen := parseAll_texts h3
    have HCL := hd hcl
    have HTX := hd hlen.2
    have HLE := hd hlen.1
    have HFW4 := hd (newR_few h1)
    have HT3 := hd htab
    have HSAME := hd (find_same HS1.out.clean hcl)
    clear hcl hlen htab h1 h2 h3 HST
    go_wp2_with fail
    refine (HRN.out _ _ HR3.out).mono ?_
    rintro e w4 ⟨u4, c4, rfl, hu4, rfl, hls⟩
    have HLS4 := hd hls
    obtain ⟨a4, k4, rfl, -⟩ := hls
    have HU4 := hd (HU3.out.trans hu4)
    have HT4 := hd (HT3.out.later hu4)
    have HR4 := hd (HR3.out.upd hu4)
    have HLN := hd (tlen_any _ _ _ w4 HT4.out)
    rw [List.length_map] at HLN
    clear hu4 HR3 HT3 HRN
    go_wp2_with fail
    refine HLN.out.mono ?_
    rintro e w5 ⟨rfl, rfl⟩
    go_wp2_with fail
    go_loopw [70] (fun s70 wr => ∃ i : Nat, s70 = .int .i64 i ∧ i ≤ ps.length ∧ Upd [] w4 wr) (fun s70 _ => ps.length - (intOf s70).toNat)
    case atStart => exact ⟨0, rfl, by omega, Upd.refl _ _⟩
    case round =>
      obtain ⟨i, rfl, hi, huw⟩ := hrel
      have HUW := hd huw
      clear huw
      by_cases hin : i < ps.length
      · have hin' : (i : Int) < (ps.length : Int) := by omega
        have hi1 : (i : Int) + 1 ≤ 9223372036854775807 := by have := HFW4.out; omega
        have hfl : i < fl.length := by have := HLE.out; omega
        have hfl' : (i : Int) < (fl.length : Int) := by omega
        obtain ⟨a', c', e, q1, q2, q3⟩ := HR4.out
        simp only [Value.slice.injEq] at e
        obtain ⟨rfl, -, rfl⟩ := e
        obtain ⟨kl, ol, rfl, hkl, hcl⟩ := q3 (by omega)
        have hki : ∀ y : Later [] wr, y.world.cell? ⟨kl, ol + i, none⟩ = some (.string (txt fl[i])) := fun y => by rw [← hcl i hfl]; exact World.cell?_of_block ((HUW.out.trans y.upd).block kl hkl (by simp))
        have HPF := hd (fun y : Later [] wr => prefix_any _ _ _ y.world (HT4.out.later (HUW.out.trans y.upd)) i (by simpa using hin))
        rw [List.getElem_map] at HPF
        have HPT := hd (fun y : Later [] wr => ptext_any (textL ps[i]) y.world)
        rw [HTX.out i hin hfl] at HPT
        clear hcl q3
        generalize textL ps[i] = T at *
        generalize fl[i] = x at *
        go_wp2_with fail
        refine wp_region_later [] (by kernel_rfl) (by kernel_rfl) ?_
        repeat (go_big_quiet_step (first
          | (go_at_call 24; refine later_call (HPF.out _))
          | (go_at_call 16; refine later_call (HPT.out _))))
        refine wpQuiet_nil ?_
        intro W9 hu9
        have HU9 := hd (HUW.out.trans hu9)
        clear hu9 hki
        go_wp2_with fail
        go_roundw
        case rel => exact ⟨i + 1, by go_num, by omega, HU9.out⟩
        case measure => simp [intOf]; omega
      · have hin' : ¬ (i : Int) < (ps.length : Int) := by omega
        have HLN2 := hd (fun W (h : Upd [] w4 W) => tlen_any _ _ _ W (HT4.out.later h))
        rw [List.length_map] at HLN2
        clear HLN
        go_wp2_with fail
        refine (HM.out _ (HU4.out.trans HUW.out)).mono ?_
        rintro e w6 ⟨u6, rfl, hu6, hr6⟩
        have HR6 := hd (row_strs hr6)
        obtain ⟨a6, c6, rfl, -⟩ := own_open hr6
        have e0 : ∃ W k, w6.heap.size = k ∧ w6.alloc (.cells #[.string (txt (textL b))] 24) = W ∧ Upd [] w6 W ∧ Blk W k #[.string (txt (textL b))] 24 := ⟨_, _, rfl, rfl, (Upd.refl _ _).alloc _, Blk.new _ _ _⟩
        have HU6 := hd (HUW.out.trans hu6)
        clear hu6 hr6
        go_upto_region 18 with fail
        obtain ⟨W6, k, hk, hW, hu, hb⟩ := e0
        rw [hW, hk]
        have HV6 := hd (HU6.out.trans hu)
        have HR7 := hd (HR6.out.upd hu)
        have hc := hb.cell
        have HF := hd (find_any _ _ _ (textL b) W6 (HD.out.later (HU4.out.trans HV6.out)) (HT4.out.later HV6.out))
        rw [HSAME.out] at HF
        have HRF := hd (fun W (h : Upd [] W6 W) => rfind_any ps b _ _ W (HLS4.out.upd (HV6.out.trans h)) (HR7.out.upd h))
        generalize gfind (fun x => x.isPrefixOf b) ps = X at *
        clear hk hW hu hb
        by_cases hX : X < 0
        · have hX' : ¬ 0 ≤ X := by omega
          go_wp2_with fail
          refine HF.out.mono ?_
          rintro e w7 ⟨ev, rfl, hu7, hev⟩
          have HRF7 := hd (HRF.out _ hu7)
          obtain ⟨kk, rfl⟩ := (find_ev hev).1 hX
          rw [show routeErr X = noRoute from if_pos hX] at hev
          have HEV := hd hev
          have HU7 := hd (HV6.out.trans hu7)
          clear hu7 hev
          go_wp2_with fail
          refine HRF7.out.mono ?_
          rintro e w8 ⟨rfl, hu8⟩
          have HU8 := hd (HU7.out.trans hu8)
          have HCD := hd (fcode_any _ _ w8 (HD.out.later (HU4.out.trans HU8.out)) (HEV.out.upd hu8))
          rw [show codeOf noRoute = 11 from rfl] at HCD
          clear hu8
          rcases (by omega : (0 ≤ n ∧ n < (ps.length : Int)) ∨ n < 0 ∨ (0 ≤ n ∧ (ps.length : Int) ≤ n)) with ⟨hn0, hn1⟩ | hn0 | ⟨hn0, hn1⟩
          · have hn0' : ¬ n < 0 := by omega
            go_wp2_with fail
            refine (HCD.out).mono ?_
            rintro e w9 ⟨rfl, hu9⟩
            have HU9 := hd (HU8.out.trans hu9)
            have HL9 := hd (HLN2.out _ HU9.out)
            clear hu9
            go_wp2_with fail
            refine HL9.out.mono ?_
            rintro e w10 ⟨rfl, rfl⟩
            go_wp2_with fail
            go_ret
            exact ⟨rfl, HU4.out.trans HU9.out⟩
          · have hn0' : ¬ 0 ≤ n := by omega
            go_wp2_with fail
            refine (HCD.out).mono ?_
            rintro e w9 ⟨rfl, hu9⟩
            have HU9 := hd (HU8.out.trans hu9)
            have HP9 := hd (prefix_out _ _ _ w9 (HT4.out.later HU9.out) n (.inl hn0))
            clear hu9
            go_wp2_with fail
            refine HP9.out.mono ?_
            rintro e w10 ⟨rfl, hu10⟩
            go_wp2_with fail
            go_ret
            exact ⟨rfl, HU4.out.trans (HU9.out.trans hu10)⟩
          · have hn0' : ¬ n < 0 := by omega
            have hn1' : ¬ n < (ps.length : Int) := by omega
            go_wp2_with fail
            refine (HCD.out).mono ?_
            rintro e w9 ⟨rfl, hu9⟩
            have HU9 := hd (HU8.out.trans hu9)
            have HL9 := hd (HLN2.out _ HU9.out)
            have HP9 := hd (prefix_out _ _ _ w9 (HT4.out.later HU9.out) n (.inr (by simpa using hn1)))
            clear hu9
            go_wp2_with fail
            refine HL9.out.mono ?_
            rintro e w10 ⟨rfl, rfl⟩
            go_wp2_with fail
            refine HP9.out.mono ?_
            rintro e w11 ⟨rfl, hu11⟩
            go_wp2_with fail
            go_ret
            exact ⟨rfl, HU4.out.trans (HU9.out.trans hu11)⟩
        · have hX' : 0 ≤ X := by omega
          go_wp2_with fail
          refine HF.out.mono ?_
          rintro e w7 ⟨ev, rfl, hu7, hev⟩
          have HRF7 := hd (HRF.out _ hu7)
          obtain rfl := (find_ev hev).2 hX'
          rw [show routeErr X = [] from if_neg (by omega)] at hev
          have HEV := hd hev
          have HU7 := hd (HV6.out.trans hu7)
          clear hu7 hev
          go_wp2_with fail
          refine HRF7.out.mono ?_
          rintro e w8 ⟨rfl, hu8⟩
          have HU8 := hd (HU7.out.trans hu8)
          have HCD := hd (fcode_any _ _ w8 (HD.out.later (HU4.out.trans HU8.out)) (HEV.out.upd hu8))
          rw [show codeOf [] = 0 from rfl] at HCD
          clear hu8
          rcases (by omega : (0 ≤ n ∧ n < (ps.length : Int)) ∨ n < 0 ∨ (0 ≤ n ∧ (ps.length : Int) ≤ n)) with ⟨hn0, hn1⟩ | hn0 | ⟨hn0, hn1⟩
          · have hn0' : ¬ n < 0 := by omega
            go_wp2_with fail
            refine (HCD.out).mono ?_
            rintro e w9 ⟨rfl, hu9⟩
            have HU9 := hd (HU8.out.trans hu9)
            have HL9 := hd (HLN2.out _ HU9.out)
            clear hu9
            go_wp2_with fail
            refine HL9.out.mono ?_
            rintro e w10 ⟨rfl, rfl⟩
            go_wp2_with fail
            go_ret
            exact ⟨rfl, HU4.out.trans HU9.out⟩
          · have hn0' : ¬ 0 ≤ n := by omega
            go_wp2_with fail
            refine (HCD.out).mono ?_
            rintro e w9 ⟨rfl, hu9⟩
            have HU9 := hd (HU8.out.trans hu9)
            have HP9 := hd (prefix_out _ _ _ w9 (HT4.out.later HU9.out) n (.inl hn0))
            clear hu9
            go_wp2_with fail
            refine HP9.out.mono ?_
            rintro e w10 ⟨rfl, hu10⟩
            go_wp2_with fail
            go_ret
            exact ⟨rfl, HU4.out.trans (HU9.out.trans hu10)⟩
          · have hn0' : ¬ n < 0 := by omega
            have hn1' : ¬ n < (ps.length : Int) := by omega
            go_wp2_with fail
            refine (HCD.out).mono ?_
            rintro e w9 ⟨rfl, hu9⟩
            have HU9 := hd (HU8.out.trans hu9)
            have HL9 := hd (HLN2.out _ HU9.out)
            have HP9 := hd (prefix_out _ _ _ w9 (HT4.out.later HU9.out) n (.inr (by simpa using hn1)))
            clear hu9
            go_wp2_with fail
            refine HL9.out.mono ?_
            rintro e w10 ⟨rfl, rfl⟩
            go_wp2_with fail
            refine HP9.out.mono ?_
            rintro e w11 ⟨rfl, hu11⟩
            go_wp2_with fail
            go_ret
            exact ⟨rfl, HU4.out.trans (HU9.out.trans hu11)⟩
end Go.Proofs.YtfhmdeamhmjddaaDoor
