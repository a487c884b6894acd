/-
  path.Up, Compare and the document's Over, Compare, Text, walked. Conditions: texts of sizes that there are; the library's variables hold what they are laid to hold.
-/
import Derived.Test.YtpniggmdokkkcaaGreatDoorMb4
import Derived.Deep.RegionHeld3
import Derived.BigRegion
set_option linter.unusedVariables false
set_option linter.unusedSimpArgs false
set_option maxRecDepth 100000
namespace Go.Proofs.YtpniggmdokkkcaaGreatDoor
open Go.RowKit

theorem isnan_any (x : List UInt8) (w : World) : Calls Tryz.prog 72 #[.string (txt x)] w fun e w' => e = .returned (.bool false) ∧ w = w' := by
  have h : ((txt x).toList != (txt x).toList) = false := by simp
  go_enter Tryz.func72, Tryz.ntmps72
  go_wp2_with fail
  go_ret
  exact ⟨rfl, rfl⟩
def cmpS (x y : List UInt8) : Int := if Op.bytesLess x y = true then -1 else if x = y then 0 else 1
theorem cmp_any (x y : List UInt8) (w : World) : Calls Tryz.prog 52 #[.string (txt x), .string (txt y)] w fun e w' => e = .returned (.int .i64 (cmpS x y)) ∧ w = w' := by
  have HC := hd (show cmpS x y = if Op.bytesLess x y = true then -1 else if x = y then 0 else 1 from rfl)
  generalize cmpS x y = q at *
  go_enter Tryz.func52, Tryz.ntmps52
  go_wp2_with fail
  refine (isnan_any x w).mono ?_
  rintro e w1 ⟨rfl, rfl⟩
  go_wp2_with fail
  refine (isnan_any y w).mono ?_
  rintro e w1 ⟨rfl, rfl⟩
  rcases hl : Op.bytesLess x y with _ | _
  · have hl' : Op.bytesLess (txt x).toList (txt y).toList = false := by rw [txt_list, txt_list]; exact hl
    rw [hl] at HC
    by_cases he : x = y
    · subst he
      have hee : ((txt x).toList == (txt x).toList) = true := by simp
      rw [if_neg (by simp), if_pos rfl] at HC
      clear hl
      go_wp2_with fail
      go_ret
      exact ⟨by rw [HC.out]; rfl, rfl⟩
    · have hee : ((txt x).toList == (txt y).toList) = false := by rw [txt_list, txt_list]; simpa using he
      rw [if_neg (by simp), if_neg he] at HC
      clear hl he
      go_wp2_with fail
      go_ret
      exact ⟨by rw [HC.out]; rfl, rfl⟩
  · have hl' : Op.bytesLess (txt x).toList (txt y).toList = true := by rw [txt_list, txt_list]; exact hl
    rw [hl, if_pos rfl] at HC
    clear hl
    go_wp2_with fail
    go_ret
    exact ⟨by rw [HC.out]; rfl, rfl⟩
/-- Which parts come first? -/
def cmpL : List (List UInt8) → List (List UInt8) → Int
  | [], [] => 0
  | [], _ :: _ => -1
  | _ :: _, [] => 1
  | x :: a, y :: b => if cmpS x y = 0 then cmpL a b else cmpS x y
theorem cmpS_zero {x y : List UInt8} (h : cmpS x y = 0) : x = y := by
  unfold cmpS at h
  split at h
  · cases h
  · split at h
    · assumption
    · cases h

set_option maxHeartbeats 8000000 in
theorem cfunc_any (a b : List (List UInt8)) (va vb : Value) (w : World) (ha : TxsAt w va a) (hb : TxsAt w vb b) :
    Calls Tryz.prog 51 #[va, vb, .func (.func 52) #[] #[]] w fun e w' => e = .returned (.int .i64 (cmpL a b)) ∧ Upd [] w w' := by
  have HA := hd ha
  have HB := hd hb
  obtain ⟨aa, ca, rfl, ha1, ha2, -⟩ := ha
  obtain ⟨ab, cb, rfl, hb1, hb2, -⟩ := hb
  have HC := hd cmp_any
  obtain ⟨q, hq⟩ : ∃ q, q = cmpL a b := ⟨_, rfl⟩
  have HQ := hd hq
  clear hq
  go_enter Tryz.func51, Tryz.ntmps51
  go_wp2_with fail
  go_loopw [13] (fun c wr => ∃ t : Nat, c = .int .i64 t ∧ t ≤ a.length ∧ t ≤ b.length ∧ cmpL a b = cmpL (a.drop t) (b.drop t) ∧ Upd [] w wr) (fun c _ => a.length - (intOf c).toNat)
  case atStart => exact ⟨0, rfl, by omega, by omega, rfl, Upd.refl _ _⟩
  case round =>
    obtain ⟨t, rfl, ht, htb, hcl, hu⟩ := hrel
    have HU := hd hu
    have HCL := hd hcl
    clear hu hcl
    by_cases htn : t < a.length
    · have htn' : (t : Int) < (a.length : Int) := by omega
      obtain ⟨a', c', e, q1, q2, q3⟩ := HA.out
      simp only [Value.slice.injEq] at e
      obtain ⟨rfl, -, rfl⟩ := e
      obtain ⟨ka, oa, rfl, hka, hca⟩ := q3 (by omega)
      have hc0 : wr.cell? ⟨ka, oa + t, none⟩ = some (.string (txt a[t])) := by rw [← hca t htn]; exact World.cell?_of_block (HU.out.block ka hka (by simp))
      have HDA := hd (List.drop_eq_getElem_cons htn)
      clear hca q3
      by_cases hbn : t < b.length
      · have hbn' : (t : Int) < (b.length : Int) := by omega
        obtain ⟨b', c', e, q1, q2, q3⟩ := HB.out
        simp only [Value.slice.injEq] at e
        obtain ⟨rfl, -, rfl⟩ := e
        obtain ⟨kb, ob, rfl, hkb, hcb⟩ := q3 (by omega)
        have hc1 : wr.cell? ⟨kb, ob + t, none⟩ = some (.string (txt b[t])) := by rw [← hcb t hbn]; exact World.cell?_of_block (HU.out.block kb hkb (by simp))
        have HDB := hd (List.drop_eq_getElem_cons hbn)
        have HST := hd (show cmpL a b = if cmpS a[t] b[t] = 0 then cmpL (a.drop (t + 1)) (b.drop (t + 1)) else cmpS a[t] b[t] by rw [HCL.out, HDA.out, HDB.out]; rfl)
        clear hcb q3 HDA HDB
        generalize a[t] = x at *
        generalize b[t] = y at *
        have HXY := hd (HC.out x y)
        generalize cmpS x y = d at *
        by_cases hd0 : d = 0
        · subst hd0
          rw [if_pos rfl] at HST
          go_wp2_with fail
          refine (HXY.out _).mono ?_
          rintro e w1 ⟨rfl, rfl⟩
          go_wp2_with fail
          go_roundw
          case rel => exact ⟨t + 1, by go_num, by omega, by omega, HST.out, HU.out⟩
          case measure => simp [intOf]; omega
        · have hd1 : (d == 0) = false := by simpa using hd0
          rw [if_neg hd0] at HST
          clear hd0
          go_wp2_with fail
          refine (HXY.out _).mono ?_
          rintro e w1 ⟨rfl, rfl⟩
          go_wp2_with fail
          go_ret
          exact ⟨by rw [HST.out]; rfl, HU.out⟩
      · have hbn' : (b.length : Int) ≤ (t : Int) := by omega
        have HF := hd (show cmpL a b = 1 by
          have hdb : b.drop t = [] := List.drop_of_length_le (by omega)
          rw [HCL.out, HDA.out, hdb]; rfl)
        go_wp2_with fail
        go_ret
        exact ⟨by rw [HF.out]; rfl, HU.out⟩
    · have htn' : ¬ (t : Int) < (a.length : Int) := by omega
      have hda : a.drop t = [] := List.drop_of_length_le (by omega)
      by_cases hab : a.length < b.length
      · have hab' : (a.length : Int) < (b.length : Int) := by omega
        have HF := hd (show cmpL a b = -1 by
          rw [HCL.out, hda]
          cases hx : b.drop t with
          | nil => have := congrArg List.length hx; rw [List.length_drop] at this; simp at this; omega
          | cons y r => rfl)
        clear hda
        go_wp2_with fail
        go_ret
        exact ⟨by rw [HF.out]; rfl, HU.out⟩
      · have hab' : ¬ (a.length : Int) < (b.length : Int) := by omega
        have HF := hd (show cmpL a b = 0 by rw [HCL.out, hda, List.drop_of_length_le (by omega)]; rfl)
        clear hda
        go_wp2_with fail
        go_ret
        exact ⟨by rw [HF.out]; rfl, HU.out⟩

set_option maxHeartbeats 8000000 in
theorem pcompare_any (p o : List UInt8) (w : World) (hD : Door w) (hp : p.length ≤ 1000000) (ho : o.length ≤ 1000000) :
    Calls Tryz.prog 29 #[.agg #[.string (txt p)], .agg #[.string (txt o)]] w fun e w' => e = .returned (.int .i64 (cmpL (parts5 p) (parts5 o))) ∧ Upd [] w w' := by
  have hb1 := Blk.new (w.alloc (.cells #[.string (txt p)] 40)) #[.string (txt o)] 40
  have hb0 := (Blk.new w #[.string (txt p)] 40).alloc (.cells #[.string (txt o)] 40)
  have e0 : ∃ W k j, w.heap.size = k ∧ k + 1 = j ∧ (w.alloc (.cells #[.string (txt p)] 40)).alloc (.cells #[.string (txt o)] 40) = W ∧ Upd [] w W ∧ Blk W k #[.string (txt p)] 40 ∧ Blk W j #[.string (txt o)] 40 :=
    ⟨_, _, _, rfl, rfl, rfl, ((Upd.refl _ _).alloc _).alloc _, hb0, by simpa using hb1⟩
  clear hb0 hb1
  have HD := hd hD
  clear hD
  go_enter Tryz.func29, Tryz.ntmps29
  go_upto_region 1 with fail
  obtain ⟨W, k, j, hk, hj, hW, hu, hb, hb'⟩ := e0
  rw [hW, hk, hj]
  have HU := hd hu
  have HPA := hd (fun W' (h : Upd [] W W') => pparts_any p W' (HD.out.later (hu.trans h)) hp)
  have HPB := hd (fun W' (h : Upd [] W W') => pparts_any o W' (HD.out.later (hu.trans h)) ho)
  have HKS := hd (show ∀ W', Upd [] W W' → ((∀ o', W'.cell? ⟨k, o', none⟩ = #[.string (txt p)][o']?) ∧ (∀ o', W'.cell? ⟨j, o', none⟩ = #[.string (txt o)][o']?)) from fun W' h => ⟨(hb.upd h (by simp)).cell, (hb'.upd h (by simp)).cell⟩)
  have hc := hb.cell
  have hc' := hb'.cell
  clear hW hk hj hu hb hb' hp ho
  go_region_held3 (fun W' => (∀ o', W'.cell? ⟨k, o', none⟩ = #[.string (txt p)][o']?) ∧ (∀ o', W'.cell? ⟨j, o', none⟩ = #[.string (txt o)][o']?))
    ((refine HKS.out _ ?_; repeat (first | with_reducible exact Upd.refl _ _ | with_reducible exact hup3 | with_reducible exact hup2 | with_reducible exact hup1 | with_reducible refine Upd.drew ?_ | with_reducible refine Upd.alloc ?_ _)))
    (first
    | ((with_reducible refine (HPA.out _ (Upd.refl [] W).drew).mono ?_); rintro e w1 ⟨v1, rfl, hu1, hv1⟩; have HV1 := hd hv1; obtain ⟨a1, c1, rfl, -⟩ := hv1; have hup1 : Upd [] W w1 := ((Upd.refl [] W).drew).trans hu1)
    | ((with_reducible refine (HPB.out _ hup1).mono ?_); rintro e w2 ⟨v2, rfl, hu2, hv2⟩; have HV2 := hd hv2; obtain ⟨a2, c2, rfl, -⟩ := hv2; have hup2 : Upd [] W w2 := hup1.trans hu2)
    | ((with_reducible refine (cfunc_any _ _ _ _ w2 (HV1.out.upd hu2) HV2.out).mono ?_); rintro e w3 ⟨rfl, hu3⟩; have hup3 : Upd [] W w3 := hup2.trans hu3)
    | fail "no arm")
  all_goals
    go_wp2_with fail
    go_ret
    exact ⟨rfl, HU.out.trans hup3⟩

set_option maxHeartbeats 4000000 in
theorem rover_any (a b : List (List UInt8)) (va vb : Value) (w : World) (ha : TxsAt w va a) (hb : TxsAt w vb b) :
    Calls Tryz.prog 84 #[va, vb] w fun e w' => e = .returned (.bool (a.isPrefixOf b)) ∧ Upd [] w w' := by
  have HA := hd ha
  have HB := hd hb
  obtain ⟨aa, ca, rfl, ha1, ha2, ha3⟩ := ha
  obtain ⟨ab, cb, rfl, hb1, hb2, hb3⟩ := hb
  have HA3 := hd ha3
  have HB3 := hd hb3
  clear ha3 hb3
  go_enter Tryz.func84, Tryz.ntmps84
  by_cases hl : b.length < a.length
  · have hl' : (b.length : Int) < (a.length : Int) := by omega
    have HD := hd (show a.isPrefixOf b = false by
      rw [Bool.eq_false_iff]
      intro h
      have := (List.isPrefixOf_iff_prefix.1 h).length_le
      omega)
    clear hl
    go_wp2_with fail
    go_ret
    exact ⟨by rw [HD.out]; rfl, Upd.refl _ _⟩
  · have hl' : ¬ (b.length : Int) < (a.length : Int) := by omega
    have HL := hd (show a.length ≤ b.length by omega)
    clear hl
    go_wp2_with fail
    go_loopw [13] (fun c wr => ∃ t : Nat, c = .int .i64 t ∧ t ≤ a.length ∧ a.take t = b.take t ∧ Upd [] w wr) (fun c _ => a.length - (intOf c).toNat)
    case atStart => exact ⟨0, rfl, by omega, rfl, Upd.refl _ _⟩
    case round =>
      obtain ⟨t, rfl, ht, heq, hu⟩ := hrel
      have HU := hd hu
      have HEQ := hd heq
      clear hu heq
      by_cases htn : t < a.length
      · have htn' : (t : Int) < (a.length : Int) := by omega
        have hbn : t < b.length := by have := HL.out; omega
        have hbn' : (t : Int) < (b.length : Int) := by omega
        obtain ⟨ka, oa, rfl, hka, hca⟩ := HA3.out (by omega)
        obtain ⟨kb, ob, rfl, hkb, hcb⟩ := HB3.out (by omega)
        have c0 : ∀ W, Upd [] w W → W.cell? ⟨ka, oa + t, none⟩ = some (.string (txt a[t])) := fun W hu => by rw [← hca t htn]; exact World.cell?_of_block (hu.block ka hka (by simp))
        have c1 : ∀ W, Upd [] w W → W.cell? ⟨kb, ob + t, none⟩ = some (.string (txt b[t])) := fun W hu => by rw [← hcb t hbn]; exact World.cell?_of_block (hu.block kb hkb (by simp))
        have d0 := c0 _ HU.out
        have d1 := c1 _ HU.out
        have d2 := c0 _ HU.out.drew
        have d3 := c1 _ HU.out.drew
        have hka' : ka < wr.heap.size := by have := HU.out.size; omega
        have hkb' : kb < wr.heap.size := by have := HU.out.size; omega
        have HT := hd (show a.take (t + 1) = a.take t ++ [a[t]] ∧ b.take (t + 1) = b.take t ++ [b[t]] from ⟨List.take_succ_eq_append_getElem htn, List.take_succ_eq_append_getElem hbn⟩)
        have HNE := hd (show a[t] ≠ b[t] → a.isPrefixOf b = false from fun h => by
          rw [Bool.eq_false_iff]
          intro hp
          obtain ⟨r, hr⟩ := List.isPrefixOf_iff_prefix.1 hp
          apply h
          have h1 : b[t]? = a[t]? := by rw [← hr, List.getElem?_append_left htn]
          rw [List.getElem?_eq_getElem hbn, List.getElem?_eq_getElem htn] at h1
          exact (Option.some.inj h1).symm)
        clear c0 c1 hca hcb
        generalize a[t] = x at *
        generalize b[t] = y at *
        by_cases hxy : x = y
        · subst hxy
          go_upto_region 6 with fail
          go_region_with fail
          all_goals
            go_wp2_with fail
            go_roundw
            case rel => exact ⟨t + 1, by go_num, by omega, by rw [HT.out.1, HT.out.2, HEQ.out], HU.out.drew⟩
            case measure => simp [intOf]; omega
        · have HN := hd (HNE.out hxy)
          have hxs : ((txt x).toList == (txt y).toList) = false := by simpa [txt_list] using hxy
          clear hxy
          go_upto_region 6 with fail
          go_region_with fail
          all_goals
            go_wp2_with fail
            go_ret
            exact ⟨by rw [HN.out]; rfl, HU.out.drew⟩
      · have HE := hd (show a.isPrefixOf b = true by
          have h := HEQ.out
          rw [List.take_of_length_le (by omega)] at h
          rw [List.isPrefixOf_iff_prefix, h]
          exact List.take_prefix _ _)
        go_wp2_with fail
        go_ret
        exact ⟨by rw [HE.out]; rfl, HU.out⟩
end Go.Proofs.YtpniggmdokkkcaaGreatDoor

/-
  path.Up and the document's Compare and Text, walked. Conditions: texts of sizes that there are.
-/
set_option linter.unusedVariables false
set_option linter.unusedSimpArgs false
set_option maxRecDepth 100000
namespace Go.Proofs.YtpniggmdokkkcaaGreatDoor
open Go.RowKit

set_option maxHeartbeats 8000000 in
theorem rcompare_any (a b : List (List UInt8)) (va vb : Value) (w : World) (ha : TxsAt w va a) (hb : TxsAt w vb b) :
    Calls Tryz.prog 83 #[va, vb] w fun e w' => e = .returned (.int .i64 (cmpL a b)) ∧ Upd [] w w' := by
  have HA := hd ha
  have HB := hd hb
  obtain ⟨aa, ca, rfl, ha1, ha2, ha3⟩ := ha
  obtain ⟨ab, cb, rfl, hb1, hb2, hb3⟩ := hb
  have HA3 := hd ha3
  have HB3 := hd hb3
  clear ha3 hb3
  go_enter Tryz.func83, Tryz.ntmps83
  go_wp2_with fail
  go_loopw [5] (fun c wr => ∃ t : Nat, c = .int .i64 t ∧ t ≤ a.length ∧ t ≤ b.length ∧ cmpL a b = cmpL (a.drop t) (b.drop t) ∧ Upd [] w wr) (fun c _ => a.length - (intOf c).toNat)
  case atStart => exact ⟨0, rfl, by omega, by omega, rfl, Upd.refl _ _⟩
  case round =>
    obtain ⟨t, rfl, ht, htb, hcl, hu⟩ := hrel
    have HU := hd hu
    have HCL := hd hcl
    clear hu hcl
    by_cases htn : t < a.length
    · have htn' : (t : Int) < (a.length : Int) := by omega
      by_cases hbn : t < b.length
      · have hbn' : (t : Int) < (b.length : Int) := by omega
        obtain ⟨ka, oa, rfl, hka, hca⟩ := HA3.out (by omega)
        obtain ⟨kb, ob, rfl, hkb, hcb⟩ := HB3.out (by omega)
        have c0 : ∀ W, Upd [] w W → W.cell? ⟨ka, oa + t, none⟩ = some (.string (txt a[t])) := fun W hu => by rw [← hca t htn]; exact World.cell?_of_block (hu.block ka hka (by simp))
        have c1 : ∀ W, Upd [] w W → W.cell? ⟨kb, ob + t, none⟩ = some (.string (txt b[t])) := fun W hu => by rw [← hcb t hbn]; exact World.cell?_of_block (hu.block kb hkb (by simp))
        have d0 := c0 _ HU.out
        have d1 := c1 _ HU.out
        have d2 := c0 _ HU.out.drew
        have d3 := c1 _ HU.out.drew
        have d4 := c0 _ HU.out.drew.drew
        have d5 := c1 _ HU.out.drew.drew
        have hka' : ka < wr.heap.size := by have := HU.out.size; omega
        have hkb' : kb < wr.heap.size := by have := HU.out.size; omega
        have HST := hd (show cmpL a b = if cmpS a[t] b[t] = 0 then cmpL (a.drop (t + 1)) (b.drop (t + 1)) else cmpS a[t] b[t] by
          rw [HCL.out, List.drop_eq_getElem_cons htn, List.drop_eq_getElem_cons hbn]; rfl)
        have HCS := hd (show cmpS a[t] b[t] = if Op.bytesLess a[t] b[t] = true then -1 else if a[t] = b[t] then 0 else 1 from rfl)
        clear c0 c1 hca hcb
        generalize a[t] = x at *
        generalize b[t] = y at *
        generalize cmpS x y = q at *
        rcases hl : Op.bytesLess x y with _ | _
        · have hl' : Op.bytesLess (txt x).toList (txt y).toList = false := by rw [txt_list, txt_list]; exact hl
          rw [hl, if_neg (by simp)] at HCS
          clear hl
          by_cases he : x = y
          · subst he
            have hee : ((txt x).toList == (txt x).toList) = true := by simp
            rw [if_pos rfl] at HCS
            rw [HCS.out, if_pos rfl] at HST
            go_upto_region 4 with fail
            go_region_with fail
            all_goals
              go_upto_region 6 with fail
              go_region_with fail
              all_goals
                go_wp2_with fail
                go_roundw
                case rel => exact ⟨t + 1, by go_num, by omega, by omega, HST.out, HU.out.drew.drew⟩
                case measure => simp [intOf]; omega
          · have hee : ((txt x).toList == (txt y).toList) = false := by rw [txt_list, txt_list]; simpa using he
            rw [if_neg he] at HCS
            rw [HCS.out, if_neg (by decide)] at HST
            clear he
            go_upto_region 4 with fail
            go_region_with fail
            all_goals
              go_upto_region 6 with fail
              go_region_with fail
              all_goals
                go_wp2_with fail
                go_ret
                exact ⟨by rw [HST.out]; rfl, HU.out.drew.drew⟩
        · have hl' : Op.bytesLess (txt x).toList (txt y).toList = true := by rw [txt_list, txt_list]; exact hl
          rw [hl, if_pos rfl] at HCS
          rw [HCS.out, if_neg (by decide)] at HST
          clear hl
          go_upto_region 4 with fail
          go_region_with fail
          all_goals
            go_wp2_with fail
            go_ret
            exact ⟨by rw [HST.out]; rfl, HU.out.drew⟩
      · have hbn' : ¬ (t : Int) < (b.length : Int) := by omega
        have hbl : b.length < a.length := by omega
        have hbl1 : (b.length : Int) < (a.length : Int) := by omega
        have hbl2 : ¬ (a.length : Int) < (b.length : Int) := by omega
        have HF := hd (show cmpL a b = 1 by
          have hdb : b.drop t = [] := List.drop_of_length_le (by omega)
          rw [HCL.out, List.drop_eq_getElem_cons htn, hdb]; rfl)
        go_wp2_with fail
        go_ret
        exact ⟨by rw [HF.out]; rfl, HU.out⟩
    · have htn' : ¬ (t : Int) < (a.length : Int) := by omega
      have hda : a.drop t = [] := List.drop_of_length_le (by omega)
      by_cases hab : a.length < b.length
      · have hab' : (a.length : Int) < (b.length : Int) := by omega
        have HF := hd (show cmpL a b = -1 by
          rw [HCL.out, hda]
          cases hx : b.drop t with
          | nil => have := congrArg List.length hx; rw [List.length_drop] at this; simp at this; omega
          | cons y r => rfl)
        clear hda
        go_wp2_with fail
        go_ret
        exact ⟨by rw [HF.out]; rfl, HU.out⟩
      · have hab' : ¬ (a.length : Int) < (b.length : Int) := by omega
        have hab2 : ¬ (b.length : Int) < (a.length : Int) := by omega
        have HF := hd (show cmpL a b = 0 by
          have hdb : b.drop t = [] := List.drop_of_length_le (by omega)
          rw [HCL.out, hda, hdb]; rfl)
        clear hda
        go_wp2_with fail
        go_ret
        exact ⟨by rw [HF.out]; rfl, HU.out⟩

theorem results_up (fn : Func) (hr : fn.results = #[.cell 2 40]) (tmps : Array Value) (W : World) (k : Nat) (x : Value) (ht : tmps[2]? = some (.pointer (some ⟨k, 0, none⟩))) (h : Blk W k #[x] 40) :
    (results fn tmps).run Tryz.prog W = .ok (.agg #[x]) W := by
  have c0 := h.cell 0
  simp at c0
  have hl : (loadVar 40 ⟨k, 0, none⟩).run Tryz.prog W = .ok (.agg #[x]) W := by
    go_simp
  simp [results, hr, ht, asAddr, hl]
/-- A path without its last part. -/
def upT (s : List UInt8) : List UInt8 := s.take (max (Lib.lastIndexByte (txt s) 47) 0).toNat
theorem last_range (s : List UInt8) : -1 ≤ Lib.lastIndexByte (txt s) 47 ∧ Lib.lastIndexByte (txt s) 47 < (s.length : Int) := by
  unfold Lib.lastIndexByte
  rcases Lib.lastIdx_spec (txt s) 47 (txt s).size with ⟨h, _⟩ | ⟨i, hi, h, _⟩
  · rw [h]; omega
  · rw [h]; rw [txt_size] at hi; omega
set_option maxHeartbeats 4000000 in
theorem pup_any (s : List UInt8) (w : World) (hs : s.length ≤ 1000000) : Calls Tryz.prog 17 #[.agg #[.string (txt s)]] w fun e w' => e = .returned (.agg #[.string (txt (upT s))]) ∧ Upd [] w w' := by
  have hb1 := Blk.new (w.alloc (.cells #[.string (txt s)] 40)) #[.string ⟨#[]⟩] 40
  have hb0 := (Blk.new w #[.string (txt s)] 40).alloc (.cells #[.string ⟨#[]⟩] 40)
  have e0 : ∃ W k j, w.heap.size = k ∧ k + 1 = j ∧ (w.alloc (.cells #[.string (txt s)] 40)).alloc (.cells #[.string ⟨#[]⟩] 40) = W ∧ Upd [] w W ∧ Blk W k #[.string (txt s)] 40 ∧ Blk W j #[.string ⟨#[]⟩] 40 :=
    ⟨_, _, _, rfl, rfl, rfl, ((Upd.refl _ _).alloc _).alloc _, hb0, by simpa using hb1⟩
  clear hb0 hb1
  have HL := hd (fun W => lib_last s W (by omega))
  have hr := last_range s
  go_enter Tryz.func17, Tryz.ntmps17
  go_upto_region 1 with fail
  obtain ⟨W, k, j, hk, hj, hW, hu, hb, hb'⟩ := e0
  rw [hW, hk, hj]
  have hjk : ¬ k = j := by omega
  have hjk' : ¬ j = k := by omega
  have HKJ := hd (show w.heap.size ≤ j by omega)
  have HU := hd hu
  have HB := hd hb'
  have HKS := hd (show ∀ W', Upd [j] W W' → (∀ o', W'.cell? ⟨k, o', none⟩ = #[.string (txt s)][o']?) from fun W' h => (hb.upd h (by simpa using hjk)).cell)
  have hc := hb.cell
  have hc' := hb'.cell
  have hz' := hb'.frozen
  have hx : (txt s).extract 0 (max (Lib.lastIndexByte (txt s) 47) 0).toNat = txt (upT s) := txt_head s _ (by omega)
  have hr1 : 0 ≤ max (Lib.lastIndexByte (txt s) 47) 0 := by omega
  have hr2 : max (Lib.lastIndexByte (txt s) 47) 0 ≤ (s.length : Int) := by omega
  clear hW hk hj hu hb hb' hr
  generalize Lib.lastIndexByte (txt s) 47 = z at *
  go_region_held3 (fun W' => ∀ o', W'.cell? ⟨k, o', none⟩ = #[.string (txt s)][o']?)
    ((refine HKS.out _ ?_; repeat (first | with_reducible exact Upd.refl _ _ | with_reducible refine Upd.drew ?_ | with_reducible refine Upd.alloc ?_ _ | with_reducible refine Upd.setCell ?_ (by first | (simp; done) | (simp; omega)) _)))
    (first
    | ((with_reducible refine (HL.out _).mono ?_); rintro e w1 ⟨rfl, rfl⟩)
    | fail "no arm")
  have hu7 : Upd [j] W (W.setCell ⟨j, 0, none⟩ (.string (txt (upT s)))).drew := ((Upd.refl _ W).setCell (by simp) _).drew
  have HF := hd (HU.out.trans' hu7 (by intro i hi; have := HKJ.out; simp only [List.mem_cons, List.not_mem_nil, or_false] at hi; omega))
  have HBF := hd (show Blk (W.setCell ⟨j, 0, none⟩ (.string (txt (upT s)))).drew j #[.string (txt (upT s))] 40 from (HB.out.set 0 (.string (txt (upT s)))))
  clear hu7
  go_wp2_with fail
  refine bodyPost_ret (results_up _ rfl _ _ j _ rfl HBF.out) rfl ?_
  exact ⟨rfl, HF.out⟩

end Go.Proofs.YtpniggmdokkkcaaGreatDoor

/-
  Paths are in order: plain laws; no program in sight.
-/
set_option linter.unusedVariables false
set_option linter.unusedSimpArgs false
namespace Go.Proofs.YtpniggmdokkkcaaGreatDoor

theorem less_irrefl : ∀ x : List UInt8, Op.bytesLess x x = false
  | [] => rfl
  | a :: x => by simp [Op.bytesLess, less_irrefl x]
theorem less_trans : ∀ {x y z : List UInt8}, Op.bytesLess x y = true → Op.bytesLess y z = true → Op.bytesLess x z = true
  | _, [], _, h, _ => by simp [Op.bytesLess] at h
  | _, _ :: _, [], _, h => by simp [Op.bytesLess] at h
  | [], _ :: _, _ :: _, _, _ => rfl
  | a :: x, b :: y, c :: z, h1, h2 => by
    simp only [Op.bytesLess, Bool.or_eq_true, decide_eq_true_eq, Bool.and_eq_true, beq_iff_eq] at h1 h2 ⊢
    rcases h1 with h1 | ⟨rfl, h1⟩
    · rcases h2 with h2 | ⟨rfl, h2⟩
      · exact .inl (UInt8.lt_trans h1 h2)
      · exact .inl h1
    · rcases h2 with h2 | ⟨rfl, h2⟩
      · exact .inl h2
      · exact .inr ⟨rfl, less_trans h1 h2⟩
theorem less_total : ∀ {x y : List UInt8}, Op.bytesLess x y = false → Op.bytesLess y x = false → x = y
  | [], [], _, _ => rfl
  | [], _ :: _, h, _ => by simp [Op.bytesLess] at h
  | _ :: _, [], _, h => by simp [Op.bytesLess] at h
  | a :: x, b :: y, h1, h2 => by
    simp only [Op.bytesLess, Bool.or_eq_false_iff, decide_eq_false_iff_not, Bool.and_eq_false_iff, beq_eq_false_iff_ne, ne_eq] at h1 h2
    have hab : a = b := by
      have h3 := h1.1
      have h4 := h2.1
      rw [UInt8.lt_iff_toNat_lt] at h3 h4
      exact UInt8.toNat.inj (by omega)
    subst hab
    rcases h1.2 with h | h
    · exact absurd rfl h
    · rcases h2.2 with h' | h'
      · exact absurd rfl h'
      · rw [less_total h h']
theorem cmpS_cases (x y : List UInt8) : (cmpS x y = -1 ∧ Op.bytesLess x y = true) ∨ (cmpS x y = 0 ∧ x = y) ∨ (cmpS x y = 1 ∧ Op.bytesLess y x = true) := by
  unfold cmpS
  by_cases h : Op.bytesLess x y = true
  · exact .inl ⟨if_pos h, h⟩
  · rw [if_neg h]
    by_cases he : x = y
    · exact .inr (.inl ⟨if_pos he, he⟩)
    · rw [if_neg he]
      refine .inr (.inr ⟨rfl, ?_⟩)
      rcases hb : Op.bytesLess y x with _ | _
      · exact absurd (less_total (by simpa using h) hb) he
      · rfl
theorem less_asymm {x y : List UInt8} (h : Op.bytesLess x y = true) : Op.bytesLess y x = false := by
  rcases hb : Op.bytesLess y x with _ | _
  · rfl
  · have := less_trans h hb
    rw [less_irrefl] at this
    cases this
theorem cmpS_same (x : List UInt8) : cmpS x x = 0 := by unfold cmpS; rw [less_irrefl]; simp
theorem cmpS_less {x y : List UInt8} (h : Op.bytesLess x y = true) : cmpS x y = -1 := if_pos h
theorem cmpS_more {x y : List UInt8} (h : Op.bytesLess y x = true) : cmpS x y = 1 := by
  rcases cmpS_cases x y with ⟨_, h1⟩ | ⟨_, rfl⟩ | ⟨h1, _⟩
  · rw [less_asymm h] at h1; cases h1
  · rw [less_irrefl] at h; cases h
  · exact h1
theorem cmpS_anti (x y : List UInt8) : cmpS x y = - cmpS y x := by
  rcases cmpS_cases x y with ⟨h, h1⟩ | ⟨h, rfl⟩ | ⟨h, h1⟩
  · rw [h, cmpS_more h1]
  · rw [h]; rfl
  · rw [h, cmpS_less h1]; rfl
theorem cmpL_anti : ∀ a b : List (List UInt8), cmpL a b = - cmpL b a
  | [], [] => rfl
  | [], _ :: _ => rfl
  | _ :: _, [] => rfl
  | x :: a, y :: b => by
    unfold cmpL
    have h := cmpS_anti x y
    have ih := cmpL_anti a b
    by_cases h0 : cmpS x y = 0
    · rw [if_pos h0, if_pos (by omega), ih]
    · rw [if_neg h0, if_neg (by omega), h]
theorem cmpL_range : ∀ a b : List (List UInt8), -1 ≤ cmpL a b ∧ cmpL a b ≤ 1
  | [], [] => by decide
  | [], _ :: _ => by show (-1 : Int) ≤ -1 ∧ (-1 : Int) ≤ 1; decide
  | _ :: _, [] => by show (-1 : Int) ≤ 1 ∧ (1 : Int) ≤ 1; decide
  | x :: a, y :: b => by
    unfold cmpL
    by_cases h0 : cmpS x y = 0
    · rw [if_pos h0]; exact cmpL_range a b
    · rw [if_neg h0]
      rcases cmpS_cases x y with ⟨e, _⟩ | ⟨e, _⟩ | ⟨e, _⟩ <;> omega
theorem cmpL_trans : ∀ {a b c : List (List UInt8)}, cmpL a b ≤ 0 → cmpL b c ≤ 0 → cmpL a c ≤ 0
  | [], _, [], _, _ => by decide
  | [], _, _ :: _, _, _ => by show (-1 : Int) ≤ 0; decide
  | x :: a, [], _, h, _ => by have h : (1 : Int) ≤ 0 := h; omega
  | x :: a, y :: b, [], _, h => by have h : (1 : Int) ≤ 0 := h; omega
  | x :: a, y :: b, z :: c, h1, h2 => by
    unfold cmpL at h1 h2 ⊢
    rcases cmpS_cases x y with ⟨e1, l1⟩ | ⟨e1, rfl⟩ | ⟨e1, l1⟩
    · rw [if_neg (by omega)] at h1
      rcases cmpS_cases y z with ⟨e2, l2⟩ | ⟨e2, rfl⟩ | ⟨e2, l2⟩
      · have := cmpS_less (less_trans l1 l2)
        rw [if_neg (by omega)]; omega
      · rw [if_neg (by omega)]; omega
      · rw [if_neg (by omega)] at h2; omega
    · rw [if_pos e1] at h1
      rcases cmpS_cases x z with ⟨e2, l2⟩ | ⟨e2, rfl⟩ | ⟨e2, l2⟩
      · rw [if_neg (by omega)]; omega
      · rw [if_pos e2] at h2 ⊢
        exact cmpL_trans h1 h2
      · rw [if_neg (by omega)] at h2; omega
    · rw [if_neg (by omega)] at h1; omega
/-- What stands between parts and what is below them is below them, too. -/
theorem cmpL_between : ∀ {a b c : List (List UInt8)}, a <+: c → cmpL a b ≤ 0 → cmpL b c ≤ 0 → a <+: b
  | [], b, _, _, _, _ => List.nil_prefix
  | x :: a, [], _, _, h, _ => by have h : (1 : Int) ≤ 0 := h; omega
  | x :: a, y :: b, [], hp, _, _ => by simp at hp
  | x :: a, y :: b, z :: c, hp, h1, h2 => by
    obtain ⟨rfl, hq⟩ := List.cons_prefix_cons.1 hp
    unfold cmpL at h1 h2
    have h := cmpS_anti x y
    rcases cmpS_cases x y with ⟨e1, l1⟩ | ⟨e1, rfl⟩ | ⟨e1, l1⟩
    · rw [if_neg (by omega)] at h2; omega
    · rw [if_pos e1] at h1
      rw [if_pos e1] at h2
      exact List.cons_prefix_cons.2 ⟨rfl, cmpL_between hq h1 h2⟩
    · rw [if_neg (by omega)] at h1; omega
end Go.Proofs.YtpniggmdokkkcaaGreatDoor
