/-
  path.Up and the document's Compare and Text, walked. Conditions: texts of sizes that there are.
-/
import Derived.Test.YtfhmdeamhmjddaaDoorPath7
import Derived.BigRegion
set_option linter.unusedVariables false
set_option linter.unusedSimpArgs false
set_option maxRecDepth 100000
namespace Go.Proofs.YtfhmdeamhmjddaaDoor
open Go.RowKit

set_option maxHeartbeats 8000000 in
theorem rcompare_any (a b : List (List UInt8)) (va vb : Value) (w : World) (ha : TxsAt w va a) (hb : TxsAt w vb b) :
    Calls Tryd.prog 30 #[va, vb] w fun e w' => e = .returned (.int .i64 (cmpL a b)) ∧ Upd [] w w' := by
  have HA := hd ha
  have HB := hd hb
  obtain ⟨aa, ca, rfl, ha1, ha2, ha3⟩ := ha
  obtain ⟨ab, cb, rfl, hb1, hb2, hb3⟩ := hb
  have HA3 := hd ha3
  have HB3 := hd hb3
  clear ha3 hb3
  go_enter Tryd.func30, Tryd.ntmps30
  go_wp2_with fail
  go_loopw [5] (fun c wr => ∃ t : Nat, c = .int .i64 t ∧ t ≤ a.length ∧ t ≤ b.length ∧ cmpL a b = cmpL (a.drop t) (b.drop t) ∧ Upd [] w wr) (fun c _ => a.length - (intOf c).toNat)
  case atStart => exact ⟨0, rfl, by omega, by omega, rfl, Upd.refl _ _⟩
  case round =>
    obtain ⟨t, rfl, ht, htb, hcl, hu⟩ := hrel
    have HU := hd hu
    have HCL := hd hcl
    clear hu hcl
    by_cases htn : t < a.length
    · have htn' : (t : Int) < (a.length : Int) := by omega
      by_cases hbn : t < b.length
      · have hbn' : (t : Int) < (b.length : Int) := by omega
        obtain ⟨ka, oa, rfl, hka, hca⟩ := HA3.out (by omega)
        obtain ⟨kb, ob, rfl, hkb, hcb⟩ := HB3.out (by omega)
        have c0 : ∀ W, Upd [] w W → W.cell? ⟨ka, oa + t, none⟩ = some (.string (txt a[t])) := fun W hu => by rw [← hca t htn]; exact World.cell?_of_block (hu.block ka hka (by simp))
        have c1 : ∀ W, Upd [] w W → W.cell? ⟨kb, ob + t, none⟩ = some (.string (txt b[t])) := fun W hu => by rw [← hcb t hbn]; exact World.cell?_of_block (hu.block kb hkb (by simp))
        have d0 := c0 _ HU.out
        have d1 := c1 _ HU.out
        have d2 := c0 _ HU.out.drew
        have d3 := c1 _ HU.out.drew
        have d4 := c0 _ HU.out.drew.drew
        have d5 := c1 _ HU.out.drew.drew
        have hka' : ka < wr.heap.size := by have := HU.out.size; omega
        have hkb' : kb < wr.heap.size := by have := HU.out.size; omega
        have HST := hd (show cmpL a b = if cmpS a[t] b[t] = 0 then cmpL (a.drop (t + 1)) (b.drop (t + 1)) else cmpS a[t] b[t] by
          rw [HCL.out, List.drop_eq_getElem_cons htn, List.drop_eq_getElem_cons hbn]; rfl)
        have HCS := hd (show cmpS a[t] b[t] = if Op.bytesLess a[t] b[t] = true then -1 else if a[t] = b[t] then 0 else 1 from rfl)
        clear c0 c1 hca hcb
        generalize a[t] = x at *
        generalize b[t] = y at *
        generalize cmpS x y = q at *
        rcases hl : Op.bytesLess x y with _ | _
        · have hl' : Op.bytesLess (txt x).toList (txt y).toList = false := by rw [txt_list, txt_list]; exact hl
          rw [hl, if_neg (by simp)] at HCS
          clear hl
          by_cases he : x = y
          · subst he
            have hee : ((txt x).toList == (txt x).toList) = true := by simp
            rw [if_pos rfl] at HCS
            rw [HCS.out, if_pos rfl] at HST
            go_upto_region 4 with fail
            go_region_with fail
            all_goals
              go_upto_region 6 with fail
              go_region_with fail
              all_goals
                go_wp2_with fail
                go_roundw
                case rel => exact ⟨t + 1, by go_num, by omega, by omega, HST.out, HU.out.drew.drew⟩
                case measure => simp [intOf]; omega
          · have hee : ((txt x).toList == (txt y).toList) = false := by rw [txt_list, txt_list]; simpa using he
            rw [if_neg he] at HCS
            rw [HCS.out, if_neg (by decide)] at HST
            clear he
            go_upto_region 4 with fail
            go_region_with fail
            all_goals
              go_upto_region 6 with fail
              go_region_with fail
              all_goals
                go_wp2_with fail
                go_ret
                exact ⟨by rw [HST.out]; rfl, HU.out.drew.drew⟩
        · have hl' : Op.bytesLess (txt x).toList (txt y).toList = true := by rw [txt_list, txt_list]; exact hl
          rw [hl, if_pos rfl] at HCS
          rw [HCS.out, if_neg (by decide)] at HST
          clear hl
          go_upto_region 4 with fail
          go_region_with fail
          all_goals
            go_wp2_with fail
            go_ret
            exact ⟨by rw [HST.out]; rfl, HU.out.drew⟩
      · have hbn' : ¬ (t : Int) < (b.length : Int) := by omega
        have hbl : b.length < a.length := by omega
        have hbl1 : (b.length : Int) < (a.length : Int) := by omega
        have hbl2 : ¬ (a.length : Int) < (b.length : Int) := by omega
        have HF := hd (show cmpL a b = 1 by
          have hdb : b.drop t = [] := List.drop_of_length_le (by omega)
          rw [HCL.out, List.drop_eq_getElem_cons htn, hdb]; rfl)
        go_wp2_with fail
        go_ret
        exact ⟨by rw [HF.out]; rfl, HU.out⟩
    · have htn' : ¬ (t : Int) < (a.length : Int) := by omega
      have hda : a.drop t = [] := List.drop_of_length_le (by omega)
      by_cases hab : a.length < b.length
      · have hab' : (a.length : Int) < (b.length : Int) := by omega
        have HF := hd (show cmpL a b = -1 by
          rw [HCL.out, hda]
          cases hx : b.drop t with
          | nil => have := congrArg List.length hx; rw [List.length_drop] at this; simp at this; omega
          | cons y r => rfl)
        clear hda
        go_wp2_with fail
        go_ret
        exact ⟨by rw [HF.out]; rfl, HU.out⟩
      · have hab' : ¬ (a.length : Int) < (b.length : Int) := by omega
        have hab2 : ¬ (b.length : Int) < (a.length : Int) := by omega
        have HF := hd (show cmpL a b = 0 by
          have hdb : b.drop t = [] := List.drop_of_length_le (by omega)
          rw [HCL.out, hda, hdb]; rfl)
        clear hda
        go_wp2_with fail
        go_ret
        exact ⟨by rw [HF.out]; rfl, HU.out⟩

theorem results_up (fn : Func) (hr : fn.results = #[.cell 2 24]) (tmps : Array Value) (W : World) (k : Nat) (x : Value) (ht : tmps[2]? = some (.pointer (some ⟨k, 0, none⟩))) (h : Blk W k #[x] 24) :
    (results fn tmps).run Tryd.prog W = .ok (.agg #[x]) W := by
  have c0 := h.cell 0
  simp at c0
  have hl : (loadVar 24 ⟨k, 0, none⟩).run Tryd.prog W = .ok (.agg #[x]) W := by
    go_simp
  simp [results, hr, ht, asAddr, hl]
/-- A path without its last part. -/
def upT (s : List UInt8) : List UInt8 := s.take (max (Lib.lastIndexByte (txt s) 47) 0).toNat
theorem last_range (s : List UInt8) : -1 ≤ Lib.lastIndexByte (txt s) 47 ∧ Lib.lastIndexByte (txt s) 47 < (s.length : Int) := by
  unfold Lib.lastIndexByte
  rcases Lib.lastIdx_spec (txt s) 47 (txt s).size with ⟨h, _⟩ | ⟨i, hi, h, _⟩
  · rw [h]; omega
  · rw [h]; rw [txt_size] at hi; omega
set_option maxHeartbeats 4000000 in
theorem pup_any (s : List UInt8) (w : World) (hs : s.length ≤ 1000000) : Calls Tryd.prog 35 #[.agg #[.string (txt s)]] w fun e w' => e = .returned (.agg #[.string (txt (upT s))]) ∧ Upd [] w w' := by
  have hb1 := Blk.new (w.alloc (.cells #[.string (txt s)] 24)) #[.string ⟨#[]⟩] 24
  have hb0 := (Blk.new w #[.string (txt s)] 24).alloc (.cells #[.string ⟨#[]⟩] 24)
  have e0 : ∃ W k j, w.heap.size = k ∧ k + 1 = j ∧ (w.alloc (.cells #[.string (txt s)] 24)).alloc (.cells #[.string ⟨#[]⟩] 24) = W ∧ Upd [] w W ∧ Blk W k #[.string (txt s)] 24 ∧ Blk W j #[.string ⟨#[]⟩] 24 :=
    ⟨_, _, _, rfl, rfl, rfl, ((Upd.refl _ _).alloc _).alloc _, hb0, by simpa using hb1⟩
  clear hb0 hb1
  have HL := hd (fun W => lib_last s W (by omega))
  have hr := last_range s
  go_enter Tryd.func35, Tryd.ntmps35
  go_upto_region 1 with fail
  obtain ⟨W, k, j, hk, hj, hW, hu, hb, hb'⟩ := e0
  rw [hW, hk, hj]
  have hjk : ¬ k = j := by omega
  have hjk' : ¬ j = k := by omega
  have HKJ := hd (show w.heap.size ≤ j by omega)
  have HU := hd hu
  have HB := hd hb'
  have HKS := hd (show ∀ W', Upd [j] W W' → (∀ o', W'.cell? ⟨k, o', none⟩ = #[.string (txt s)][o']?) from fun W' h => (hb.upd h (by simpa using hjk)).cell)
  have hc := hb.cell
  have hc' := hb'.cell
  have hz' := hb'.frozen
  have hx : (txt s).extract 0 (max (Lib.lastIndexByte (txt s) 47) 0).toNat = txt (upT s) := txt_head s _ (by omega)
  have hr1 : 0 ≤ max (Lib.lastIndexByte (txt s) 47) 0 := by omega
  have hr2 : max (Lib.lastIndexByte (txt s) 47) 0 ≤ (s.length : Int) := by omega
  clear hW hk hj hu hb hb' hr
  generalize Lib.lastIndexByte (txt s) 47 = z at *
  go_region_held3 (fun W' => ∀ o', W'.cell? ⟨k, o', none⟩ = #[.string (txt s)][o']?)
    ((refine HKS.out _ ?_; repeat (first | with_reducible exact Upd.refl _ _ | with_reducible refine Upd.drew ?_ | with_reducible refine Upd.alloc ?_ _ | with_reducible refine Upd.setCell ?_ (by first | (simp; done) | (simp; omega)) _)))
    (first
    | ((with_reducible refine (HL.out _).mono ?_); rintro e w1 ⟨rfl, rfl⟩)
    | fail "no arm")
  have hu7 : Upd [j] W (W.setCell ⟨j, 0, none⟩ (.string (txt (upT s)))).drew := ((Upd.refl _ W).setCell (by simp) _).drew
  have HF := hd (HU.out.trans' hu7 (by intro i hi; have := HKJ.out; simp only [List.mem_cons, List.not_mem_nil, or_false] at hi; omega))
  have HBF := hd (show Blk (W.setCell ⟨j, 0, none⟩ (.string (txt (upT s)))).drew j #[.string (txt (upT s))] 24 from (HB.out.set 0 (.string (txt (upT s)))))
  clear hu7
  go_wp2_with fail
  refine bodyPost_ret (results_up _ rfl _ _ j _ rfl HBF.out) rfl ?_
  exact ⟨rfl, HF.out⟩

set_option maxHeartbeats 4000000 in
theorem rtext_any (l : List (List UInt8)) (v : Value) (w : World) (hv : TxsAt w v l) (hl : madeL l = true) :
    Calls Tryd.prog 36 #[v] w fun e w' => e = .returned (.string (txt (if l = [] then [47] else textL l))) ∧ w = w' := by
  have HV := hd hv
  obtain ⟨a, c, rfl, hc, hm, -⟩ := hv
  unfold madeL at hl
  simp only [Bool.and_eq_true, decide_eq_true_eq, List.all_eq_true] at hl
  have HL := hd hl
  clear hl
  obtain ⟨q, hq⟩ : ∃ q, q = if l = [] then [47] else textL l := ⟨_, rfl⟩
  rw [← hq]
  have HQ := hd hq
  clear hq
  by_cases h0 : l = []
  · subst h0
    rw [if_pos rfl] at HQ
    have hl0 : ([] : List (List UInt8)).length = 0 := rfl
    rw [hl0]
    go_enter Tryd.func36, Tryd.ntmps36
    go_wp2_with fail
    go_ret
    exact ⟨by rw [HQ.out]; rfl, rfl⟩
  · rw [if_neg h0] at HQ
    have hl0 : ((l.length : Int) == 0) = false := by simpa using h0
    clear h0
    go_enter Tryd.func36, Tryd.ntmps36
    go_wp2_with fail
    go_loopw [3, 11] (fun s3 s11 wr => ∃ t : Nat, s11 = .int .i64 t ∧ t ≤ l.length ∧ s3 = .string (txt (textL (l.take t))) ∧ w = wr) (fun _ s11 _ => l.length - (intOf s11).toNat)
    case atStart => exact ⟨0, rfl, by omega, rfl, rfl⟩
    case round =>
      obtain ⟨t, rfl, ht, rfl, rfl⟩ := hrel
      by_cases htn : t < l.length
      · have htn' : (t : Int) < (l.length : Int) := by omega
        obtain ⟨a', c', e, q1, q2, q3⟩ := HV.out
        simp only [Value.slice.injEq] at e
        obtain ⟨rfl, -, rfl⟩ := e
        obtain ⟨kl, ol, rfl, hkl, hcl⟩ := q3 (by omega)
        have hc0 := hcl t htn
        have HT := hd (show textL (l.take (t + 1)) = textL (l.take t) ++ (47 :: l[t]) by rw [List.take_succ_eq_append_getElem htn, text_app]; simp [textL])
        have hps := (part_short (HL.out.1 l[t] (List.getElem_mem _))).1
        have hsm := text_small (l := l.take t) (fun x hx => (part_short (HL.out.1 x (List.mem_of_mem_take hx))).1)
        rw [List.length_take, Nat.min_eq_left ht] at hsm
        have hl6 := HL.out.2
        clear hcl q3
        generalize textL (l.take t) = T0 at *
        generalize l[t] = x at *
        have hs1 := add_txt' [47] x (by simp; omega)
        have hs2 := add_txt' T0 (47 :: x) (by simp; omega)
        rw [show txt [47] = ⟨#[47]⟩ from rfl, show [47] ++ x = 47 :: x from rfl] at hs1
        go_wp2_with fail
        go_roundw
        case rel => exact ⟨t + 1, by go_num, by omega, by rw [HT.out], by first | rfl | trivial⟩
        case measure => simp [intOf]; omega
      · have htl : l.take t = l := List.take_of_length_le (by omega)
        rw [htl]
        clear htl
        go_wp2_with fail
        go_ret
        exact ⟨by rw [HQ.out]; rfl, rfl⟩
end Go.Proofs.YtfhmdeamhmjddaaDoor
