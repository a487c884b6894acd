/-
  path.Up, Compare and the document's Over, Compare, Text, walked. Conditions: texts of sizes that there are; the library's variables hold what they are laid to hold.
-/
import Derived.Test.YtfhmdeamhmjddaaDoorPath6
import Derived.Deep.RegionHeld3
set_option linter.unusedVariables false
set_option linter.unusedSimpArgs false
set_option maxRecDepth 100000
namespace Go.Proofs.YtfhmdeamhmjddaaDoor
open Go.RowKit

theorem isnan_any (x : List UInt8) (w : World) : Calls Tryd.prog 64 #[.string (txt x)] w fun e w' => e = .returned (.bool false) ∧ w = w' := by
  have h : ((txt x).toList != (txt x).toList) = false := by simp
  go_enter Tryd.func64, Tryd.ntmps64
  go_wp2_with fail
  go_ret
  exact ⟨rfl, rfl⟩
def cmpS (x y : List UInt8) : Int := if Op.bytesLess x y = true then -1 else if x = y then 0 else 1
theorem cmp_any (x y : List UInt8) (w : World) : Calls Tryd.prog 50 #[.string (txt x), .string (txt y)] w fun e w' => e = .returned (.int .i64 (cmpS x y)) ∧ w = w' := by
  have HC := hd (show cmpS x y = if Op.bytesLess x y = true then -1 else if x = y then 0 else 1 from rfl)
  generalize cmpS x y = q at *
  go_enter Tryd.func50, Tryd.ntmps50
  go_wp2_with fail
  refine (isnan_any x w).mono ?_
  rintro e w1 ⟨rfl, rfl⟩
  go_wp2_with fail
  refine (isnan_any y w).mono ?_
  rintro e w1 ⟨rfl, rfl⟩
  rcases hl : Op.bytesLess x y with _ | _
  · have hl' : Op.bytesLess (txt x).toList (txt y).toList = false := by rw [txt_list, txt_list]; exact hl
    rw [hl] at HC
    by_cases he : x = y
    · subst he
      have hee : ((txt x).toList == (txt x).toList) = true := by simp
      rw [if_neg (by simp), if_pos rfl] at HC
      clear hl
      go_wp2_with fail
      go_ret
      exact ⟨by rw [HC.out]; rfl, rfl⟩
    · have hee : ((txt x).toList == (txt y).toList) = false := by rw [txt_list, txt_list]; simpa using he
      rw [if_neg (by simp), if_neg he] at HC
      clear hl he
      go_wp2_with fail
      go_ret
      exact ⟨by rw [HC.out]; rfl, rfl⟩
  · have hl' : Op.bytesLess (txt x).toList (txt y).toList = true := by rw [txt_list, txt_list]; exact hl
    rw [hl, if_pos rfl] at HC
    clear hl
    go_wp2_with fail
    go_ret
    exact ⟨by rw [HC.out]; rfl, rfl⟩
/-- Which parts come first? -/
def cmpL : List (List UInt8) → List (List UInt8) → Int
  | [], [] => 0
  | [], _ :: _ => -1
  | _ :: _, [] => 1
  | x :: a, y :: b => if cmpS x y = 0 then cmpL a b else cmpS x y
theorem cmpS_zero {x y : List UInt8} (h : cmpS x y = 0) : x = y := by
  unfold cmpS at h
  split at h
  · cases h
  · split at h
    · assumption
    · cases h

set_option maxHeartbeats 8000000 in
theorem cfunc_any (a b : List (List UInt8)) (va vb : Value) (w : World) (ha : TxsAt w va a) (hb : TxsAt w vb b) :
    Calls Tryd.prog 49 #[va, vb, .func (.func 50) #[] #[]] w fun e w' => e = .returned (.int .i64 (cmpL a b)) ∧ Upd [] w w' := by
  have HA := hd ha
  have HB := hd hb
  obtain ⟨aa, ca, rfl, ha1, ha2, -⟩ := ha
  obtain ⟨ab, cb, rfl, hb1, hb2, -⟩ := hb
  have HC := hd cmp_any
  obtain ⟨q, hq⟩ : ∃ q, q = cmpL a b := ⟨_, rfl⟩
  have HQ := hd hq
  clear hq
  go_enter Tryd.func49, Tryd.ntmps49
  go_wp2_with fail
  go_loopw [13] (fun c wr => ∃ t : Nat, c = .int .i64 t ∧ t ≤ a.length ∧ t ≤ b.length ∧ cmpL a b = cmpL (a.drop t) (b.drop t) ∧ Upd [] w wr) (fun c _ => a.length - (intOf c).toNat)
  case atStart => exact ⟨0, rfl, by omega, by omega, rfl, Upd.refl _ _⟩
  case round =>
    obtain ⟨t, rfl, ht, htb, hcl, hu⟩ := hrel
    have HU := hd hu
    have HCL := hd hcl
    clear hu hcl
    by_cases htn : t < a.length
    · have htn' : (t : Int) < (a.length : Int) := by omega
      obtain ⟨a', c', e, q1, q2, q3⟩ := HA.out
      simp only [Value.slice.injEq] at e
      obtain ⟨rfl, -, rfl⟩ := e
      obtain ⟨ka, oa, rfl, hka, hca⟩ := q3 (by omega)
      have hc0 : wr.cell? ⟨ka, oa + t, none⟩ = some (.string (txt a[t])) := by rw [← hca t htn]; exact World.cell?_of_block (HU.out.block ka hka (by simp))
      have HDA := hd (List.drop_eq_getElem_cons htn)
      clear hca q3
      by_cases hbn : t < b.length
      · have hbn' : (t : Int) < (b.length : Int) := by omega
        obtain ⟨b', c', e, q1, q2, q3⟩ := HB.out
        simp only [Value.slice.injEq] at e
        obtain ⟨rfl, -, rfl⟩ := e
        obtain ⟨kb, ob, rfl, hkb, hcb⟩ := q3 (by omega)
        have hc1 : wr.cell? ⟨kb, ob + t, none⟩ = some (.string (txt b[t])) := by rw [← hcb t hbn]; exact World.cell?_of_block (HU.out.block kb hkb (by simp))
        have HDB := hd (List.drop_eq_getElem_cons hbn)
        have HST := hd (show cmpL a b = if cmpS a[t] b[t] = 0 then cmpL (a.drop (t + 1)) (b.drop (t + 1)) else cmpS a[t] b[t] by rw [HCL.out, HDA.out, HDB.out]; rfl)
        clear hcb q3 HDA HDB
        generalize a[t] = x at *
        generalize b[t] = y at *
        have HXY := hd (HC.out x y)
        generalize cmpS x y = d at *
        by_cases hd0 : d = 0
        · subst hd0
          rw [if_pos rfl] at HST
          go_wp2_with fail
          refine (HXY.out _).mono ?_
          rintro e w1 ⟨rfl, rfl⟩
          go_wp2_with fail
          go_roundw
          case rel => exact ⟨t + 1, by go_num, by omega, by omega, HST.out, HU.out⟩
          case measure => simp [intOf]; omega
        · have hd1 : (d == 0) = false := by simpa using hd0
          rw [if_neg hd0] at HST
          clear hd0
          go_wp2_with fail
          refine (HXY.out _).mono ?_
          rintro e w1 ⟨rfl, rfl⟩
          go_wp2_with fail
          go_ret
          exact ⟨by rw [HST.out]; rfl, HU.out⟩
      · have hbn' : (b.length : Int) ≤ (t : Int) := by omega
        have HF := hd (show cmpL a b = 1 by
          have hdb : b.drop t = [] := List.drop_of_length_le (by omega)
          rw [HCL.out, HDA.out, hdb]; rfl)
        go_wp2_with fail
        go_ret
        exact ⟨by rw [HF.out]; rfl, HU.out⟩
    · have htn' : ¬ (t : Int) < (a.length : Int) := by omega
      have hda : a.drop t = [] := List.drop_of_length_le (by omega)
      by_cases hab : a.length < b.length
      · have hab' : (a.length : Int) < (b.length : Int) := by omega
        have HF := hd (show cmpL a b = -1 by
          rw [HCL.out, hda]
          cases hx : b.drop t with
          | nil => have := congrArg List.length hx; rw [List.length_drop] at this; simp at this; omega
          | cons y r => rfl)
        clear hda
        go_wp2_with fail
        go_ret
        exact ⟨by rw [HF.out]; rfl, HU.out⟩
      · have hab' : ¬ (a.length : Int) < (b.length : Int) := by omega
        have HF := hd (show cmpL a b = 0 by rw [HCL.out, hda, List.drop_of_length_le (by omega)]; rfl)
        clear hda
        go_wp2_with fail
        go_ret
        exact ⟨by rw [HF.out]; rfl, HU.out⟩

set_option maxHeartbeats 8000000 in
theorem pcompare_any (p o : List UInt8) (w : World) (hD : Door w) (hp : p.length ≤ 1000000) (ho : o.length ≤ 1000000) :
    Calls Tryd.prog 28 #[.agg #[.string (txt p)], .agg #[.string (txt o)]] w fun e w' => e = .returned (.int .i64 (cmpL (parts5 p) (parts5 o))) ∧ Upd [] w w' := by
  have hb1 := Blk.new (w.alloc (.cells #[.string (txt p)] 24)) #[.string (txt o)] 24
  have hb0 := (Blk.new w #[.string (txt p)] 24).alloc (.cells #[.string (txt o)] 24)
  have e0 : ∃ W k j, w.heap.size = k ∧ k + 1 = j ∧ (w.alloc (.cells #[.string (txt p)] 24)).alloc (.cells #[.string (txt o)] 24) = W ∧ Upd [] w W ∧ Blk W k #[.string (txt p)] 24 ∧ Blk W j #[.string (txt o)] 24 :=
    ⟨_, _, _, rfl, rfl, rfl, ((Upd.refl _ _).alloc _).alloc _, hb0, by simpa using hb1⟩
  clear hb0 hb1
  have HD := hd hD
  clear hD
  go_enter Tryd.func28, Tryd.ntmps28
  go_upto_region 1 with fail
  obtain ⟨W, k, j, hk, hj, hW, hu, hb, hb'⟩ := e0
  rw [hW, hk, hj]
  have HU := hd hu
  have HPA := hd (fun W' (h : Upd [] W W') => pparts_any p W' (HD.out.later (hu.trans h)) hp)
  have HPB := hd (fun W' (h : Upd [] W W') => pparts_any o W' (HD.out.later (hu.trans h)) ho)
  have HKS := hd (show ∀ W', Upd [] W W' → ((∀ o', W'.cell? ⟨k, o', none⟩ = #[.string (txt p)][o']?) ∧ (∀ o', W'.cell? ⟨j, o', none⟩ = #[.string (txt o)][o']?)) from fun W' h => ⟨(hb.upd h (by simp)).cell, (hb'.upd h (by simp)).cell⟩)
  have hc := hb.cell
  have hc' := hb'.cell
  clear hW hk hj hu hb hb' hp ho
  go_region_held3 (fun W' => (∀ o', W'.cell? ⟨k, o', none⟩ = #[.string (txt p)][o']?) ∧ (∀ o', W'.cell? ⟨j, o', none⟩ = #[.string (txt o)][o']?))
    ((refine HKS.out _ ?_; repeat (first | with_reducible exact Upd.refl _ _ | with_reducible exact hup3 | with_reducible exact hup2 | with_reducible exact hup1 | with_reducible refine Upd.drew ?_ | with_reducible refine Upd.alloc ?_ _)))
    (first
    | ((with_reducible refine (HPA.out _ (Upd.refl [] W).drew).mono ?_); rintro e w1 ⟨v1, rfl, hu1, hv1⟩; have HV1 := hd hv1; obtain ⟨a1, c1, rfl, -⟩ := hv1; have hup1 : Upd [] W w1 := ((Upd.refl [] W).drew).trans hu1)
    | ((with_reducible refine (HPB.out _ hup1).mono ?_); rintro e w2 ⟨v2, rfl, hu2, hv2⟩; have HV2 := hd hv2; obtain ⟨a2, c2, rfl, -⟩ := hv2; have hup2 : Upd [] W w2 := hup1.trans hu2)
    | ((with_reducible refine (cfunc_any _ _ _ _ w2 (HV1.out.upd hu2) HV2.out).mono ?_); rintro e w3 ⟨rfl, hu3⟩; have hup3 : Upd [] W w3 := hup2.trans hu3)
    | fail "no arm")
  all_goals
    go_wp2_with fail
    go_ret
    exact ⟨rfl, HU.out.trans hup3⟩

set_option maxHeartbeats 4000000 in
theorem rover_any (a b : List (List UInt8)) (va vb : Value) (w : World) (ha : TxsAt w va a) (hb : TxsAt w vb b) :
    Calls Tryd.prog 29 #[va, vb] w fun e w' => e = .returned (.bool (a.isPrefixOf b)) ∧ Upd [] w w' := by
  have HA := hd ha
  have HB := hd hb
  obtain ⟨aa, ca, rfl, ha1, ha2, ha3⟩ := ha
  obtain ⟨ab, cb, rfl, hb1, hb2, hb3⟩ := hb
  have HA3 := hd ha3
  have HB3 := hd hb3
  clear ha3 hb3
  go_enter Tryd.func29, Tryd.ntmps29
  by_cases hl : b.length < a.length
  · have hl' : (b.length : Int) < (a.length : Int) := by omega
    have HD := hd (show a.isPrefixOf b = false by
      rw [Bool.eq_false_iff]
      intro h
      have := (List.isPrefixOf_iff_prefix.1 h).length_le
      omega)
    clear hl
    go_wp2_with fail
    go_ret
    exact ⟨by rw [HD.out]; rfl, Upd.refl _ _⟩
  · have hl' : ¬ (b.length : Int) < (a.length : Int) := by omega
    have HL := hd (show a.length ≤ b.length by omega)
    clear hl
    go_wp2_with fail
    go_loopw [13] (fun c wr => ∃ t : Nat, c = .int .i64 t ∧ t ≤ a.length ∧ a.take t = b.take t ∧ Upd [] w wr) (fun c _ => a.length - (intOf c).toNat)
    case atStart => exact ⟨0, rfl, by omega, rfl, Upd.refl _ _⟩
    case round =>
      obtain ⟨t, rfl, ht, heq, hu⟩ := hrel
      have HU := hd hu
      have HEQ := hd heq
      clear hu heq
      by_cases htn : t < a.length
      · have htn' : (t : Int) < (a.length : Int) := by omega
        have hbn : t < b.length := by have := HL.out; omega
        have hbn' : (t : Int) < (b.length : Int) := by omega
        obtain ⟨ka, oa, rfl, hka, hca⟩ := HA3.out (by omega)
        obtain ⟨kb, ob, rfl, hkb, hcb⟩ := HB3.out (by omega)
        have c0 : ∀ W, Upd [] w W → W.cell? ⟨ka, oa + t, none⟩ = some (.string (txt a[t])) := fun W hu => by rw [← hca t htn]; exact World.cell?_of_block (hu.block ka hka (by simp))
        have c1 : ∀ W, Upd [] w W → W.cell? ⟨kb, ob + t, none⟩ = some (.string (txt b[t])) := fun W hu => by rw [← hcb t hbn]; exact World.cell?_of_block (hu.block kb hkb (by simp))
        have d0 := c0 _ HU.out
        have d1 := c1 _ HU.out
        have d2 := c0 _ HU.out.drew
        have d3 := c1 _ HU.out.drew
        have hka' : ka < wr.heap.size := by have := HU.out.size; omega
        have hkb' : kb < wr.heap.size := by have := HU.out.size; omega
        have HT := hd (show a.take (t + 1) = a.take t ++ [a[t]] ∧ b.take (t + 1) = b.take t ++ [b[t]] from ⟨List.take_succ_eq_append_getElem htn, List.take_succ_eq_append_getElem hbn⟩)
        have HNE := hd (show a[t] ≠ b[t] → a.isPrefixOf b = false from fun h => by
          rw [Bool.eq_false_iff]
          intro hp
          obtain ⟨r, hr⟩ := List.isPrefixOf_iff_prefix.1 hp
          apply h
          have h1 : b[t]? = a[t]? := by rw [← hr, List.getElem?_append_left htn]
          rw [List.getElem?_eq_getElem hbn, List.getElem?_eq_getElem htn] at h1
          exact (Option.some.inj h1).symm)
        clear c0 c1 hca hcb
        generalize a[t] = x at *
        generalize b[t] = y at *
        by_cases hxy : x = y
        · subst hxy
          go_upto_region 6 with fail
          go_region_with fail
          all_goals
            go_wp2_with fail
            go_roundw
            case rel => exact ⟨t + 1, by go_num, by omega, by rw [HT.out.1, HT.out.2, HEQ.out], HU.out.drew⟩
            case measure => simp [intOf]; omega
        · have HN := hd (HNE.out hxy)
          have hxs : ((txt x).toList == (txt y).toList) = false := by simpa [txt_list] using hxy
          clear hxy
          go_upto_region 6 with fail
          go_region_with fail
          all_goals
            go_wp2_with fail
            go_ret
            exact ⟨by rw [HN.out]; rfl, HU.out.drew⟩
      · have HE := hd (show a.isPrefixOf b = true by
          have h := HEQ.out
          rw [List.take_of_length_le (by omega)] at h
          rw [List.isPrefixOf_iff_prefix, h]
          exact List.take_prefix _ _)
        go_wp2_with fail
        go_ret
        exact ⟨by rw [HE.out]; rfl, HU.out⟩
end Go.Proofs.YtfhmdeamhmjddaaDoor
