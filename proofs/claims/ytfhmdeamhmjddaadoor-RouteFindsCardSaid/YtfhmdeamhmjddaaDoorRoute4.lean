/-
  The law RouteOne of layer 6, walked: it answers true. Conditions: the lists read as lists; the library's variables hold what they are laid to hold.
-/
import Derived.Test.YtfhmdeamhmjddaaDoorRoute3
import Derived.Test.YtfhmdeamhmjddaaDoorPlain06
import Derived.Test.YtfhmdeamhmjddaaDoorLines05
set_option linter.unusedVariables false
set_option linter.unusedSimpArgs false
set_option maxRecDepth 100000
namespace Go.Proofs.YtfhmdeamhmjddaaDoor
open Go.RowKit

theorem lit_bcd : parse5 [47, 98, 47, 99, 47, 100] = some [[98], [99], [100]] := by decide
set_option maxHeartbeats 4000000 in
theorem awake06_any (w : World) (hD : Door w) : Calls Tryd.prog 19 #[] w fun e w' => e = .returned (.bool true) ∧ Upd [] w w' := by
  have HD := hd hD
  have H1 := hd (fun (v : Value) (W : World) (h : Upd [] w W) (hv : TxsAt W v [[47, 97], [47, 98, 47, 99]]) => new06_any _ v W (hD.later h) hv (by decide))
  rw [newR_lit] at H1
  have h2 := fun W (h : Door W) => pparse_any [47, 98, 47, 99, 47, 100] W h (by decide)
  rw [lit_bcd] at h2
  have H2 := hd h2
  have e1 : txt [47, 98, 47, 99, 47, 100] = ⟨#[47, 98, 47, 99, 47, 100]⟩ := rfl
  rw [e1] at H2
  have b0 : Blk (w.alloc (.cells #[.string ⟨#[47, 97]⟩, .string ⟨#[47, 98, 47, 99]⟩] 9)) w.heap.size #[.string (txt [47, 97]), .string (txt [47, 98, 47, 99])] 9 := Blk.new _ _ _
  have e0 : ∃ W k, w.heap.size = k ∧ w.alloc (.cells #[.string ⟨#[47, 97]⟩, .string ⟨#[47, 98, 47, 99]⟩] 9) = W ∧ Upd [] w W ∧ TxsAt W (.slice (some ⟨k, 0, none⟩) 2 2) [[47, 97], [47, 98, 47, 99]] := ⟨_, _, rfl, rfl, (Upd.refl _ _).alloc _, _, _, rfl, by decide, by decide, fun _ => ⟨_, _, rfl, b0.lt, fun i hi => by
    have hc := b0.cell (0 + i)
    rw [hc]
    rcases i with _ | _ | i
    · rfl
    · rfl
    · simp at hi; omega⟩⟩
  clear h2 hD e1 b0
  go_enter Tryd.func19, Tryd.ntmps19
  go_wp2_with fail
  obtain ⟨W, k, hk, hW, hu, hts⟩ := e0
  rw [hW, hk]
  have HU := hd hu
  refine (H1.out _ _ hu hts).mono ?_
  rintro e w1 ⟨pv, ev, rfl, hu1, kt, rfl, rfl, hkt, htab⟩
  have HU1 := hd (HU.out.trans hu1)
  have HT1 := hd htab
  clear hk hW hu hts hu1 htab hkt H1
  go_wp2_with fail
  refine (H2.out _ (HD.out.later HU1.out)).mono ?_
  rintro e w2 ⟨p, ev, rfl, hu2, hp, hev⟩
  subst hp
  subst hev
  have e0 : ∃ W k, w2.heap.size = k ∧ w2.alloc (.cells #[.string (txt (textL [[98], [99], [100]]))] 24) = W ∧ Upd [] w2 W ∧ Blk W k #[.string (txt (textL [[98], [99], [100]]))] 24 := ⟨_, _, rfl, rfl, (Upd.refl _ _).alloc _, Blk.new _ _ _⟩
  have HU2 := hd (HU1.out.trans hu2)
  have HT2 := hd (HT1.out.later hu2)
  clear hu2
  go_upto_region 3 with fail
  obtain ⟨W3, k, hk, hW, hu, hb⟩ := e0
  rw [hW, hk]
  have HU3 := hd (HU2.out.trans hu)
  have HT3 := hd (HT2.out.later hu)
  have hc := hb.cell
  have HF := hd (find_any _ _ _ (textL [[98], [99], [100]]) W3 (HD.out.later HU3.out) HT3.out)
  have hfi : findIdx (fun x => overT x (textL [[98], [99], [100]])) (List.map textL [[[97]], [[98], [99]]]) = 1 := by decide
  rw [hfi] at HF
  clear hk hW hu hb hfi
  go_wp2_with fail
  refine HF.out.mono ?_
  rintro e w4 ⟨ev, rfl, hu4, hev⟩
  have hev' : ev = .nilIface := hev
  subst hev'
  have HU4 := hd (HU3.out.trans hu4)
  have HL := hd (tlen_any _ _ _ w4 (HT3.out.later hu4))
  clear hu4 hev
  go_wp2_with fail
  refine HL.out.mono ?_
  rintro e w5 ⟨rfl, rfl⟩
  go_wp2_with fail
  go_ret
  exact ⟨rfl, HU4.out⟩

theorem find_ev {w : World} {ev : Value} {q : Int} (h : ErrAt w ev (routeErr q)) : (q < 0 → ∃ k, ev = .iface 67 (.pointer (some ⟨k, 0, none⟩))) ∧ (0 ≤ q → ev = .nilIface) := by
  refine ⟨fun hq => ?_, fun hq => ?_⟩
  · rw [show routeErr q = noRoute from if_pos hq] at h
    obtain ⟨k, u, h1, -⟩ := h
    exact ⟨k, h1⟩
  · rw [show routeErr q = [] from if_neg (by omega)] at h
    exact h

set_option maxHeartbeats 16000000 in
theorem route_one_law (ll la lb : List (List UInt8)) (vl va vb : Value) (w : World) (hD : Door w) (hl : TxsAt w vl ll) (ha : TxsAt w va la) (hb : TxsAt w vb lb)
    (hll : ∀ x ∈ ll, x.length ≤ 9223372036854775807) (hla : ∀ x ∈ la, x.length ≤ 9223372036854775807) (hlb : ∀ x ∈ lb, x.length ≤ 9223372036854775807) :
    Calls Tryd.prog 4 #[vl, va, vb] w fun e w' => e = .returned (.bool true) ∧ Upd [] w w' := by
  have HD := hd hD
  have HAW := hd (awake06_any w hD)
  have HFW := hd (fun W (h : Upd [] w W) => few_any ll vl W (hl.upd h))
  have HNW := hd (fun v W (h : Upd [] w W) (hv : TxsAt W v (fewL ll)) => new06_any _ v W (hD.later h) hv (fewL_small ll))
  have HM1 := hd (fun W (h : Upd [] w W) => lmade_any la va W (hD.later h) (ha.upd h) hla)
  have HM2 := hd (fun W (h : Upd [] w W) => lmade_any lb vb W (hD.later h) (hb.upd h) hlb)
  have HBAD := hd (fun e (h : newR (fewL ll) = .bad e) => newR_bad h)
  have HOK := hd (fun ps (h : newR (fewL ll) = .ok ps) => And.intro (newR_apart h) (newR_few h))
  have S1 := six_of la
  have S2 := six_of lb
  obtain ⟨l0, n0, rfl, -⟩ := hl
  obtain ⟨a0, c0, rfl, -⟩ := ha
  obtain ⟨b0, d0, rfl, -⟩ := hb
  generalize mk6 la = a at *
  generalize mk6 lb = b at *
  generalize newR (fewL ll) = R at *
  generalize fewL ll = fl at *
  have HS1 := hd S1
  have HS2 := hd S2
  clear S1 S2 hll hla hlb hD
  go_enter Tryd.func4, Tryd.ntmps4
  go_wp2_with fail
  refine HAW.out.mono ?_
  rintro e w1 ⟨rfl, hu1⟩
  have HU1 := hd hu1
  clear hu1
  go_wp2_with fail
  refine (HFW.out _ HU1.out).mono ?_
  rintro e w2 ⟨u2, rfl, hu2, hr2⟩
  have HR2 := hd (row_strs hr2)
  obtain ⟨a2, c2, rfl, -⟩ := own_open hr2
  have HU2 := hd (HU1.out.trans hu2)
  clear hu2 hr2 HFW HAW
  go_wp2_with fail
  refine (HNW.out _ _ HU2.out HR2.out).mono ?_
  rintro e w3 ⟨pv, ev, rfl, hu3, hans⟩
  have HU3 := hd (HU2.out.trans hu3)
  clear hu3 HNW HR2
  cases R with
  | bad e =>
    obtain ⟨rfl, hev⟩ := hans
    obtain ⟨kk, rfl⟩ : ∃ k, ev = .iface 67 (.pointer (some ⟨k, 0, none⟩)) := by
      cases e with
      | nil => exact absurd rfl (HBAD.out _ rfl)
      | cons x r => obtain ⟨k, u, h1, -⟩ := hev; exact ⟨k, h1⟩
    clear hev
    go_wp2_with fail
    go_ret
    exact ⟨rfl, HU3.out⟩
  | ok ps =>
    obtain ⟨kt, rfl, rfl, -, htab⟩ := hans
    obtain ⟨hap, hpl⟩ := HOK.out ps rfl
    obtain ⟨L, hL⟩ : ∃ L, ps.map textL = L := ⟨_, rfl⟩
    rw [hL] at htab hap
    have hLl : L.length ≤ 4 := by rw [← hL, List.length_map]; exact hpl
    have HAP := hd hap
    have HLL := hd hLl
    have HT3 := hd htab
    clear hL hap hpl htab hLl HOK HBAD
    go_wp2_with fail
    refine (HM1.out _ HU3.out).mono ?_
    rintro e w4 ⟨u4, rfl, hu4, hr4⟩
    obtain ⟨a4, c4, rfl, -⟩ := own_open hr4
    have e0 : ∃ W k, w4.heap.size = k ∧ w4.alloc (.cells #[.string (txt (textL a))] 24) = W ∧ Upd [] w4 W ∧ Blk W k #[.string (txt (textL a))] 24 := ⟨_, _, rfl, rfl, (Upd.refl _ _).alloc _, Blk.new _ _ _⟩
    have HU4 := hd (HU3.out.trans hu4)
    have HT4 := hd (HT3.out.later hu4)
    clear hu4 hr4 HM1
    go_upto_region 7 with fail
    obtain ⟨W4, k, hk, hW, hu, hb⟩ := e0
    rw [hW, hk]
    have HV4 := hd (HU4.out.trans hu)
    have HTT := hd (HT4.out.later hu)
    have HBK := hd hb
    clear hW hk hu hb
    go_wp2_with fail
    refine (HM2.out _ HV4.out).mono ?_
    rintro e w5 ⟨u5, rfl, hu5, hr5⟩
    obtain ⟨a5, c5, rfl, -⟩ := own_open hr5
    have e0 : ∃ W j, w5.heap.size = j ∧ w5.alloc (.cells #[.string (txt (textL b))] 24) = W ∧ Upd [] w5 W ∧ Blk W j #[.string (txt (textL b))] 24 := ⟨_, _, rfl, rfl, (Upd.refl _ _).alloc _, Blk.new _ _ _⟩
    have HU5 := hd (HV4.out.trans hu5)
    have HT5 := hd (HTT.out.later hu5)
    have HBK5 := hd (HBK.out.upd hu5 (by simp))
    clear hu5 hr5 HM2
    go_upto_region 8 with fail
    obtain ⟨W5, j, hj, hW, hu, hb⟩ := e0
    rw [hW, hj]
    have HU := hd (HU5.out.trans hu)
    have HT := hd (HT5.out.later hu)
    have HKA := hd (HBK5.out.upd hu (by simp))
    have HKB := hd hb
    have HLN := hd (tlen_any _ _ _ W5 HT.out)
    clear hW hj hu hb HU1 HU2 HU3 HU4 HV4 HU5 HT3 HT4 HTT HT5 HBK HBK5
    go_wp2_with fail
    refine HLN.out.mono ?_
    rintro e w6 ⟨rfl, rfl⟩
    obtain ⟨f, hf⟩ : ∃ f : List UInt8 → Bool, f = fun x => overT x (textL a) := ⟨_, rfl⟩
    have HF := hd hf
    clear hf
    have HN0 := hd (show (L.take 0).countP f = 0 from rfl)
    go_wp2_with fail
    go_loopw [43, 13] (fun s43 s13 wr => ∃ t : Nat, s43 = .int .i64 t ∧ s13 = .int .i64 ((L.take t).countP f : Nat) ∧ t ≤ L.length ∧ Upd [] W5 wr) (fun s43 _ _ => L.length - (intOf s43).toNat)
    case atStart => exact ⟨0, rfl, rfl, by omega, Upd.refl _ _⟩
    case round =>
      obtain ⟨t, rfl, rfl, ht, hu⟩ := hrel
      have HUW := hd hu
      by_cases htn : t < L.length
      · have htn' : (t : Int) < (L.length : Int) := by omega
        have ht4 : (t : Int) + 1 ≤ 9223372036854775807 := by have := HLL.out; omega
        have hka : ∀ (y : Later [] wr) o, y.world.cell? ⟨k, o, none⟩ = #[.string (txt (textL a))][o]? := fun y => (y.blk (HKA.out.upd HUW.out (by simp)) (by simp)).cell
        have HPF := hd (fun y : Later [] wr => prefix_any _ _ L y.world (HT.out.later (HUW.out.trans y.upd)) t htn)
        have HOV := hd (fun y : Later [] wr => pover_any L[t] (textL a) y.world)
        have HSN := hd (show (L.take (t + 1)).countP f = (L.take t).countP f + if overT L[t] (textL a) then 1 else 0 by
          rw [List.take_succ_eq_append_getElem htn, List.countP_append, HF.out]
          simp [List.countP_cons])
        have hcb : (((L.take t).countP f : Nat) : Int) + 1 ≤ 9223372036854775807 := by
          have h1 : (L.take t).countP f ≤ (L.take t).length := List.countP_le_length
          rw [List.length_take] at h1
          have := HLL.out
          omega
        clear hu
        generalize L[t] = x at *
        generalize (L.take t).countP f = m at *
        generalize overT x (textL a) = q at *
        cases q with
        | false =>
          go_upto_region 12 with fail
          refine wp_region_later [] (by kernel_rfl) (by kernel_rfl) ?_
          repeat (go_big_quiet_step (first
            | (go_at_call 24; refine later_call (HPF.out _))
            | (go_at_call 25; refine later_call (HOV.out _))))
          refine wpQuiet_nil ?_
          intro W9 hu9
          have HU9 := hd (HUW.out.trans hu9)
          have HSN' := hd (show (L.take (t + 1)).countP f = m from HSN.out)
          clear hu9 hka
          go_wp2_with fail
          go_roundw
          case rel => exact ⟨t + 1, by go_num, by rw [HSN'.out], by omega, HU9.out⟩
          case measure => simp [intOf]; omega
        | true =>
          go_upto_region 12 with fail
          refine wp_region_later [] (by kernel_rfl) (by kernel_rfl) ?_
          repeat (go_big_quiet_step (first
            | (go_at_call 24; refine later_call (HPF.out _))
            | (go_at_call 25; refine later_call (HOV.out _))))
          refine wpQuiet_nil ?_
          intro W9 hu9
          have HU9 := hd (HUW.out.trans hu9)
          have HSN' := hd (show (L.take (t + 1)).countP f = m + 1 from HSN.out)
          clear hu9 hka
          go_wp2_with fail
          go_roundw
          case rel => exact ⟨t + 1, by go_num, by rw [HSN'.out]; go_num, by omega, HU9.out⟩
          case measure => simp [intOf]; omega
      · have htn' : ¬ (t : Int) < (L.length : Int) := by omega
        have HTK := hd (show L.take t = L from List.take_of_length_le (by omega))
        have hcnt : (L.countP f = 0 ∧ findIdx (fun x => overT x (textL a)) L = -1) ∨ (L.countP f = 1 ∧ 0 ≤ findIdx (fun x => overT x (textL a)) L) := by
          rw [HF.out]
          exact HAP.out.count HS1.out.clean
        rw [HTK.out]
        have HLI := hd (HAP.out.line HS1.out.clean HS2.out.clean)
        have HFI1 := hd (fun W (h : Upd [] W5 W) => find_any _ _ L (textL a) W (HD.out.later (HU.out.trans h)) (HT.out.later h))
        have HFI2 := hd (fun W (h : Upd [] W5 W) => find_any _ _ L (textL b) W (HD.out.later (HU.out.trans h)) (HT.out.later h))
        have HIN := hd (pinline_any (textL a) (textL b))
        obtain ⟨z, hz⟩ : ∃ z : Int, ((L.countP f : Nat) : Int) = z := ⟨_, rfl⟩
        rw [hz]
        generalize findIdx (fun x => overT x (textL a)) L = X at *
        generalize findIdx (fun x => overT x (textL b)) L = Y at *
        generalize (overT (textL a) (textL b) || overT (textL b) (textL a)) = il at *
        have hcnt' : (z = 0 ∧ X = -1) ∨ (z = 1 ∧ 0 ≤ X) := by omega
        have hca := (HKA.out.upd HUW.out (by simp)).cell
        clear hz hcnt hu
        rcases hcnt' with ⟨rfl, rfl⟩ | ⟨rfl, hx⟩
        · go_wp2_with fail
          refine (HFI1.out _ HUW.out).mono ?_
          rintro e w7 ⟨ev, rfl, hu7, hev⟩
          obtain ⟨kk, rfl⟩ := (find_ev hev).1 (by decide)
          have HU7 := hd (HUW.out.trans hu7)
          have hcb := (HKB.out.upd HU7.out (by simp)).cell
          clear hu7 hev hca
          go_wp2_with fail
          refine (HFI2.out _ HU7.out).mono ?_
          rintro e w8 ⟨ev2, rfl, hu8, hev2⟩
          have HU8 := hd (HU7.out.trans hu8)
          clear hu8 hcb
          by_cases hy : 0 ≤ Y
          · obtain rfl := (find_ev hev2).2 hy
            clear hev2
            go_wp2_with fail
            go_ret
            exact ⟨rfl, HU.out.trans HU8.out⟩
          · obtain ⟨k2, rfl⟩ := (find_ev hev2).1 (by omega)
            clear hev2
            go_wp2_with fail
            go_ret
            exact ⟨rfl, HU.out.trans HU8.out⟩
        · have HX := hd hx
          go_wp2_with fail
          refine (HFI1.out _ HUW.out).mono ?_
          rintro e w7 ⟨ev, rfl, hu7, hev⟩
          obtain rfl := (find_ev hev).2 HX.out
          have HU7 := hd (HUW.out.trans hu7)
          have hcb := (HKB.out.upd HU7.out (by simp)).cell
          clear hu7 hev hca hx
          go_wp2_with fail
          refine (HFI2.out _ HU7.out).mono ?_
          rintro e w8 ⟨ev2, rfl, hu8, hev2⟩
          have HU8 := hd (HU7.out.trans hu8)
          clear hu8 hcb
          by_cases hy : 0 ≤ Y
          · obtain rfl := (find_ev hev2).2 hy
            have HY := hd hy
            have hca8 := (HKA.out.upd HU8.out (by simp)).cell
            have hcb8 := (HKB.out.upd HU8.out (by simp)).cell
            clear hev2 hy
            cases il with
            | true =>
              obtain rfl : X = Y := HLI.out HX.out HY.out rfl
              go_wp2_with fail
              refine (HIN.out _).mono ?_
              rintro e w9 ⟨rfl, hu9⟩
              go_wp2_with fail
              go_ret
              exact ⟨rfl, HU.out.trans (HU8.out.trans hu9)⟩
            | false =>
              go_wp2_with fail
              refine (HIN.out _).mono ?_
              rintro e w9 ⟨rfl, hu9⟩
              go_wp2_with fail
              go_ret
              exact ⟨rfl, HU.out.trans (HU8.out.trans hu9)⟩
          · obtain ⟨k2, rfl⟩ := (find_ev hev2).1 (by omega)
            clear hev2
            go_wp2_with fail
            go_ret
            exact ⟨rfl, HU.out.trans HU8.out⟩
end Go.Proofs.YtfhmdeamhmjddaaDoor
