/-
  chatelaineref06.New and Find, walked. Conditions: texts of sizes that there are.
-/
import Derived.Test.YtfhmdeamhmjddaaDoorRoute5
set_option linter.unusedVariables false
set_option linter.unusedSimpArgs false
set_option maxRecDepth 100000
namespace Go.Proofs.YtfhmdeamhmjddaaDoor
open Go.RowKit

def lineAt (ps : List (List (List UInt8))) (i j : Nat) : Bool := decide (i ≠ j) && (ps.getD i []).isPrefixOf (ps.getD j [])
def refOk (ps : List (List (List UInt8))) (i : Nat) : Prop := ∀ i', i' < i → ∀ j, j < ps.length → lineAt ps i' j = false
inductive RefOut
  | bad (c : Int)
  | ok (ps : List (List (List UInt8)))
noncomputable def refP : Option (List (List (List UInt8))) → RefOut
  | none => .bad 10
  | some ps => @ite _ (refOk ps ps.length) (Classical.propDecidable _) (.ok ps) (.bad 11)
theorem refP_ok {ps : List (List (List UInt8))} (h : refOk ps ps.length) : refP (some ps) = .ok ps := if_pos h
theorem refP_bad {ps : List (List (List UInt8))} (h : ¬ refOk ps ps.length) : refP (some ps) = .bad 11 := if_neg h
noncomputable def refN (l : List (List UInt8)) : RefOut := if l.length = 0 ∨ 4 < l.length then .bad 12 else refP (parseAll l)
def RefAt (w : World) (u : Value) (c : Int) : RefOut → Prop
  | .bad c' => c = c' ∧ u = .slice none 0 0
  | .ok ps => c = 0 ∧ ListsAt w u ps

set_option maxHeartbeats 8000000 in
theorem rnew_any (l : List (List UInt8)) (v : Value) (w : World) (hv : TxsAt w v l) (hl : ∀ x ∈ l, x.length ≤ 100000) :
    Calls Tryd.prog 31 #[v] w fun e w' => ∃ u c, e = .returned (.tuple #[u, .int .i64 c]) ∧ Upd [] w w' ∧ RefAt w' u c (refN l) := by
  have HV := hd hv
  obtain ⟨a, c, rfl, hc1, hc2, -⟩ := hv
  go_enter Tryd.func31, Tryd.ntmps31
  go_upto_region 1 with fail
  go_cut [18] (fun s18 wx => s18 = .bool (decide (l.length = 0 ∨ 4 < l.length)) ∧ wx = w)
  case first =>
    rcases (by omega : l.length = 0 ∨ (0 < l.length ∧ l.length ≤ 4) ∨ 4 < l.length) with h | h | h
    · have h1 : ((l.length : Int) == 0) = true := by rw [beq_iff_eq]; omega
      have HX := hd (show decide (l.length = 0 ∨ 4 < l.length) = true from decide_eq_true (by omega))
      go_wp2_with fail
      go_meet
      case rel => exact ⟨by rw [HX.out], rfl⟩
    · have h1 : ((l.length : Int) == 0) = false := by rw [beq_eq_false_iff_ne]; omega
      have h2 : ¬ (4 : Int) < (l.length : Int) := by omega
      have HX := hd (show decide (l.length = 0 ∨ 4 < l.length) = false from decide_eq_false (by omega))
      go_wp2_with fail
      go_meet
      case rel => exact ⟨by rw [HX.out], rfl⟩
    · have h1 : ((l.length : Int) == 0) = false := by rw [beq_eq_false_iff_ne]; omega
      have h2 : (4 : Int) < (l.length : Int) := by omega
      have HX := hd (show decide (l.length = 0 ∨ 4 < l.length) = true from decide_eq_true (by omega))
      go_wp2_with fail
      go_meet
      case rel => exact ⟨by rw [HX.out], rfl⟩
  case rest =>
    obtain ⟨rfl, rfl⟩ := hcut
    rename World => wx0
    by_cases hlen : l.length = 0 ∨ 4 < l.length
    · have hdc : decide (l.length = 0 ∨ 4 < l.length) = true := by simpa using hlen
      have HN := hd (show refN l = .bad 12 from if_pos hlen)
      rw [hdc]
      clear hlen hdc
      go_wp2_with fail
      go_ret2
      refine ⟨_, _, rfl, Upd.refl _ _, ?_⟩
      rw [HN.out]
      exact ⟨rfl, rfl⟩
    · have hdc : decide (l.length = 0 ∨ 4 < l.length) = false := by simpa using hlen
      have HN := hd (show refN l = refP (parseAll l) from if_neg hlen)
      have hl4 : l.length ≤ 4 := by omega
      rw [hdc]
      clear hlen hdc
      have e0 : ∃ W k, wx0.heap.size = k ∧ wx0.alloc (.cells #[] 29) = W ∧ Upd [] wx0 W ∧ ListsRow wx0.heap.size W (.slice (some ⟨k, 0, none⟩) 0 0) [] :=
        ⟨_, _, rfl, rfl, (Upd.refl _ _).alloc _, [], ⟨rfl, .inr ⟨wx0.heap.size, 0, #[], rfl, Nat.le_refl _, Blk.new _ _ _, Nat.le_refl _, by unfold maxLen; omega, rfl, rfl⟩⟩, rfl, fun i h => by simp at h⟩
      go_upto_region 4 with fail
      obtain ⟨W0, kt, hkt, hW0, hu0, hr0⟩ := e0
      rw [hW0, hkt]
      have HU0 := hd hu0
      have HR0 := hd hr0
      have HL4 := hd hl4
      clear hW0 hkt hu0 hr0
      go_wp2_with fail
      go_loopw [22, 4] (fun s22 s4 wr => ∃ (t : Nat) (ps : List (List (List UInt8))), s22 = .int .i64 t ∧ t ≤ l.length ∧ parseAll (l.take t) = some ps ∧ ps.length = t ∧ Upd [] wx0 wr ∧ ListsRow wx0.heap.size wr s4 ps) (fun s22 _ _ => l.length - (intOf s22).toNat)
      case atStart => exact ⟨0, [], rfl, by omega, rfl, rfl, HU0.out, HR0.out⟩
      case round =>
        clear HU0 HR0
        obtain ⟨t, ps, rfl, ht, hps, hpl, hu, hrow⟩ := hrel
        have HU := hd hu
        have HROW := hd hrow
        have HPS := hd hps
        have HPL := hd hpl
        obtain ⟨vs, hown, -, -⟩ := hrow
        obtain ⟨a4, c4, rfl, hn4, hm4, -⟩ := own_open hown
        have HGE := hd (fun i (hi : i ∈ (Value.slice a4 ps.length c4).ownBlock.toList) => (own_ge hown i (by simpa using hi)).1)
        clear hu hown hps hpl
        by_cases htn : t < l.length
        · have htn' : (t : Int) < (l.length : Int) := by omega
          have hB := HU.out.size
          obtain ⟨a', c', e, q1, q2, q3⟩ := HV.out
          simp only [Value.slice.injEq] at e
          obtain ⟨rfl, -, rfl⟩ := e
          obtain ⟨kl, ol, rfl, hkl, hcl⟩ := q3 (by omega)
          have hc0 : wr.cell? ⟨kl, ol + t, none⟩ = some (.string (txt l[t])) := by rw [← hcl t htn]; exact World.cell?_of_block (HU.out.block kl hkl (by simp))
          have hx := hl l[t] (List.getElem_mem _)
          have HP := hd (rparse_row l[t] wr hx)
          have HSN := hd (show parseAll (l.take (t + 1)) = match parse5 l[t] with
              | none => none
              | some q => some (ps ++ [q]) by
            rw [List.take_succ_eq_append_getElem htn, parseAll_app, HPS.out]
            simp only [parseAll]
            cases parse5 l[t] with
            | none => rfl
            | some q => rfl)
          have HBAD := hd (show parseAll (l.take (t + 1)) = none → parseAll l = none from fun h => by
            rw [← List.take_append_drop (t + 1) l, parseAll_app, h])
          have HPL4 := hd (show ps.length ≤ 4 by rw [HPL.out]; omega)
          have HBB := hd hB
          clear hcl q3 hB hn4 hm4
          generalize parse5 l[t] = o at *
          generalize l[t] = x at *
          go_wp2_with fail
          refine HP.out.mono ?_
          rintro e w2 ⟨p, b, rfl, hu2, hans⟩
          cases o with
          | none =>
            obtain rfl : b = false := hans
            have HNB := hd (show refN l = .bad 10 by rw [HN.out, HBAD.out (by rw [HSN.out])]; rfl)
            have HU2 := hd (HU.out.trans hu2)
            clear hu2
            go_wp2_with fail
            go_ret2
            refine ⟨_, _, rfl, HU2.out, ?_⟩
            rw [HNB.out]
            exact ⟨rfl, rfl⟩
          | some q =>
            obtain ⟨rfl, hq⟩ := hans
            have HQ := hd (own_mono hq HBB.out)
            obtain ⟨a7, c7, rfl, -⟩ := own_open hq
            have HU2 := hd (HU.out.trans hu2)
            have HR2 := hd (HROW.out.upd hu2)
            clear hu2 hq
            go_wp2_with (at_builtin; refine listsAppend rfl (.tmp 33) (.tmp 35) rfl wx0.heap.size _ ps q _ rfl (HR2.out.upd ((Upd.refl _ _).alloc _)) (own_upd (L := []) HQ.out ((Upd.refl _ _).alloc _) (by simp)) w2.heap.size rfl (Blk.new _ _ _) ?d1 ?d2 ?_)
            case d1 => have := HPL4.out; omega
            case d2 => have := HU2.out.size; simp; omega
            intro v6 w6 hr6 hu6
            have hx6 : Upd (Value.slice a4 ps.length c4).ownBlock.toList w2 w6 := ((Upd.refl _ w2).alloc _).trans hu6
            have HU6 := hd (HU2.out.trans' hx6 (fun i hi => .inr (HGE.out i hi)))
            have HR6 := hd hr6
            obtain ⟨vs6, hown6, -, -⟩ := hr6
            obtain ⟨a6, c6, rfl, -⟩ := own_open hown6
            clear hown6 hu6 hx6
            go_wp2_with fail
            go_roundw
            case rel => exact ⟨t + 1, ps ++ [q], by go_num, by omega, HSN.out, by rw [List.length_append, HPL.out]; rfl, HU6.out, by simpa using HR6.out⟩
            case measure => simp [intOf]; omega
        · have hall := HPS.out
          rw [show t = l.length by omega, List.take_length] at hall
          have HNW := hd (show refN l = refP (some ps) by rw [HN.out, hall])
          have HLA := hd (lrow_lists HROW.out)
          have HPL4 := hd (show ps.length ≤ 4 by rw [HPL.out]; omega)
          have htn' : ¬ (t : Int) < (l.length : Int) := by omega
          clear hall hn4 hm4 HROW HGE
          generalize wr = W1 at *
          go_wp2_with fail
          go_loopw [40] (fun s40 wr => ∃ i : Nat, s40 = .int .i64 i ∧ i ≤ ps.length ∧ refOk ps i ∧ Upd [] W1 wr) (fun s40 _ => ps.length - (intOf s40).toNat)
          case atStart => exact ⟨0, rfl, by omega, fun i h => by omega, Upd.refl _ _⟩
          case round =>
            obtain ⟨i, rfl, hi, hok, huw⟩ := hrel
            have HUW := hd huw
            have HOK := hd hok
            clear huw hok
            by_cases hin : i < ps.length
            · have hin' : (i : Int) < (ps.length : Int) := by omega
              have hi1 : (i : Int) + 1 ≤ 9223372036854775807 := by have := HPL4.out; omega
              generalize wr = W2 at *
              go_wp2_with fail
              go_loopw [45] (fun s45 wr => ∃ j : Nat, s45 = .int .i64 j ∧ j ≤ ps.length ∧ (∀ j', j' < j → lineAt ps i j' = false) ∧ Upd [] W2 wr) (fun s45 _ => ps.length - (intOf s45).toNat)
              case atStart => exact ⟨0, rfl, by omega, fun j h => by omega, Upd.refl _ _⟩
              case round =>
                obtain ⟨j, rfl, hj, hok, huw⟩ := hrel
                have HUV := hd (HUW.out.trans huw)
                have HVW := hd huw
                have HOJ := hd hok
                clear huw hok
                by_cases hjn : j < ps.length
                · have hjn' : (j : Int) < (ps.length : Int) := by omega
                  have hj1 : (j : Int) + 1 ≤ 9223372036854775807 := by have := HPL4.out; omega
                  by_cases hij : i = j
                  · have hij' : ((i : Int) != (j : Int)) = false := by simp [hij]
                    have HX := hd (show lineAt ps i j = false by unfold lineAt; simp [hij])
                    go_wp2_with fail
                    refine wp_region_later [] (by kernel_rfl) (by kernel_rfl) ?_
                    repeat (go_big_quiet_step (fail))
                    refine wpQuiet_nil ?_
                    intro W9 hu9
                    have HU9 := hd hu9
                    clear hu9
                    go_wp2_with fail
                    go_roundw
                    case rel => exact ⟨j + 1, by go_num, by omega, fun j' h => by
                      rcases Nat.lt_succ_iff_lt_or_eq.mp h with h | rfl
                      · exact HOJ.out j' h
                      · exact HX.out, HVW.out.trans HU9.out⟩
                    case measure => simp [intOf]; omega
                  · have hij' : ((i : Int) != (j : Int)) = true := by simp; omega
                    have HX := hd (show lineAt ps i j = ps[i].isPrefixOf ps[j] by
                      unfold lineAt
                      rw [List.getD_eq_getElem?_getD, List.getElem?_eq_getElem hin, List.getD_eq_getElem?_getD, List.getElem?_eq_getElem hjn]
                      simp [hij])
                    obtain ⟨a', c', e, q1, q2, q3⟩ := HLA.out
                    simp only [Value.slice.injEq] at e
                    obtain ⟨rfl, -, rfl⟩ := e
                    obtain ⟨kl, ol, rfl, hkl, hcl⟩ := q3 (by omega)
                    obtain ⟨ui, hci, hti⟩ := hcl i hin
                    obtain ⟨uj, hcj, htj⟩ := hcl j hjn
                    have HTI := hd hti
                    have HTJ := hd htj
                    obtain ⟨ai, ci, rfl, -⟩ := hti
                    obtain ⟨aj, cj, rfl, -⟩ := htj
                    have hki : ∀ y : Later [] wr, y.world.cell? ⟨kl, ol + i, none⟩ = some (.slice ai ps[i].length ci) := fun y => by rw [← hci]; exact World.cell?_of_block ((HUV.out.trans y.upd).block kl hkl (by simp))
                    have hkj : ∀ y : Later [] wr, y.world.cell? ⟨kl, ol + j, none⟩ = some (.slice aj ps[j].length cj) := fun y => by rw [← hcj]; exact World.cell?_of_block ((HUV.out.trans y.upd).block kl hkl (by simp))
                    have HR := hd (fun y : Later [] wr => rover_any ps[i] ps[j] _ _ y.world (HTI.out.upd (HUV.out.trans y.upd)) (HTJ.out.upd (HUV.out.trans y.upd)))
                    clear hci hcj hcl q3
                    generalize ps[i].isPrefixOf ps[j] = b at *
                    generalize ps[i] = pi at *
                    generalize ps[j] = pj at *
                    cases b with
                    | true =>
                      have HNB := hd (show refN l = .bad 11 by
                        rw [HNW.out]
                        exact refP_bad (fun h => by
                          have := h i hin j hjn
                          rw [HX.out] at this
                          cases this))
                      go_wp2_with fail
                      refine wp_region_later [] (by kernel_rfl) (by kernel_rfl) ?_
                      repeat (go_big_quiet_step ((go_at_call 29; refine later_call (HR.out _))))
                      refine wpQuiet_nil ?_
                      intro W9 hu9
                      have HU9 := hd (HU.out.trans (HUV.out.trans hu9))
                      clear hu9 hki hkj
                      go_wp2_with fail
                      go_ret2
                      refine ⟨_, _, rfl, HU9.out, ?_⟩
                      rw [HNB.out]
                      exact ⟨rfl, rfl⟩
                    | false =>
                      go_wp2_with fail
                      refine wp_region_later [] (by kernel_rfl) (by kernel_rfl) ?_
                      repeat (go_big_quiet_step ((go_at_call 29; refine later_call (HR.out _))))
                      refine wpQuiet_nil ?_
                      intro W9 hu9
                      have HU9 := hd hu9
                      clear hu9 hki hkj
                      go_wp2_with fail
                      go_roundw
                      case rel => exact ⟨j + 1, by go_num, by omega, fun j' h => by
                        rcases Nat.lt_succ_iff_lt_or_eq.mp h with h | rfl
                        · exact HOJ.out j' h
                        · exact HX.out, HVW.out.trans HU9.out⟩
                      case measure => simp [intOf]; omega
                · have hjn' : ¬ (j : Int) < (ps.length : Int) := by omega
                  have HJ := hd (show j = ps.length by omega)
                  go_wp2_with fail
                  go_roundw
                  case rel => exact ⟨i + 1, by go_num, by omega, fun i' h j' hj' => by
                    rcases Nat.lt_succ_iff_lt_or_eq.mp h with h | rfl
                    · exact HOK.out i' h j' hj'
                    · exact HOJ.out j' (by have := HJ.out; omega), HUV.out⟩
                  case measure => simp [intOf]; omega
            · have hin' : ¬ (i : Int) < (ps.length : Int) := by omega
              have HNB := hd (show refN l = .ok ps by
                rw [HNW.out]
                exact refP_ok (by have := HOK.out; rwa [show i = ps.length by omega] at this))
              go_wp2_with fail
              go_ret2
              refine ⟨_, _, rfl, HU.out.trans HUW.out, ?_⟩
              rw [HNB.out]
              exact ⟨rfl, HLA.out.upd HUW.out⟩
/-- Where the first one is that is so. -/
def gfind {α : Type} (p : α → Bool) : List α → Int
  | [] => -1
  | x :: l => if p x then 0 else if gfind p l = -1 then -1 else gfind p l + 1

theorem gfind_hit {α : Type} (p : α → Bool) : ∀ (l : List α) (t : Nat) (h : t < l.length), (∀ x ∈ l.take t, p x = false) → p l[t] = true → gfind p l = t
  | x :: l, 0, _, _, hp => if_pos hp
  | x :: l, t + 1, h, ha, hp => by
    have h1 : p x = false := ha x (by simp)
    have h2 := gfind_hit p l t (by simpa using h) (fun y hy => ha y (by simp [hy])) (by simpa using hp)
    unfold gfind
    rw [h1, h2]
    simp only [Bool.false_eq_true, if_false]
    rw [if_neg (by omega)]
    omega
theorem gfind_miss {α : Type} (p : α → Bool) : ∀ (l : List α), (∀ x ∈ l, p x = false) → gfind p l = -1
  | [], _ => rfl
  | x :: l, h => by
    have h1 : p x = false := h x (by simp)
    unfold gfind
    rw [h1, gfind_miss p l (fun y hy => h y (by simp [hy]))]
    rfl


set_option maxHeartbeats 8000000 in
theorem rfind_any (ps : List (List (List UInt8))) (p : List (List UInt8)) (v vp : Value) (w : World) (hv : ListsAt w v ps) (hp : TxsAt w vp p) :
    Calls Tryd.prog 32 #[v, vp] w fun e w' => e = .returned (.int .i64 (gfind (fun x => x.isPrefixOf p) ps)) ∧ Upd [] w w' := by
  have HV := hd hv
  have HP := hd hp
  obtain ⟨a, c, rfl, hc1, hc2, -⟩ := hv
  obtain ⟨b, d, rfl, -⟩ := hp
  go_enter Tryd.func32, Tryd.ntmps32
  go_wp2_with fail
  go_loopw [9] (fun s9 wr => ∃ t : Nat, s9 = .int .i64 t ∧ t ≤ ps.length ∧ (∀ x ∈ ps.take t, x.isPrefixOf p = false) ∧ Upd [] w wr) (fun s9 _ => ps.length - (intOf s9).toNat)
  case atStart => exact ⟨0, rfl, by omega, fun x hx => by simp at hx, Upd.refl _ _⟩
  case round =>
    obtain ⟨t, rfl, ht, hno, hu⟩ := hrel
    have HU := hd hu
    have HNO := hd hno
    clear hu hno
    by_cases htn : t < ps.length
    · have htn' : (t : Int) < (ps.length : Int) := by omega
      have ht1 : (t : Int) + 1 ≤ 9223372036854775807 := by omega
      obtain ⟨a', c', e, q1, q2, q3⟩ := HV.out
      simp only [Value.slice.injEq] at e
      obtain ⟨rfl, -, rfl⟩ := e
      obtain ⟨kl, ol, rfl, hkl, hcl⟩ := q3 (by omega)
      obtain ⟨ui, hci, hti⟩ := hcl t htn
      have HTI := hd hti
      obtain ⟨ai, ci, rfl, -⟩ := hti
      have hc0 : wr.cell? ⟨kl, ol + t, none⟩ = some (.slice ai ps[t].length ci) := by rw [← hci]; exact World.cell?_of_block (HU.out.block kl hkl (by simp))
      have HR := hd (rover_any ps[t] p _ _ wr (HTI.out.upd HU.out) (HP.out.upd HU.out))
      have HIT := hd (gfind_hit (fun x => x.isPrefixOf p) ps t htn HNO.out)
      have HSN := hd (show ps[t].isPrefixOf p = false → ∀ x ∈ ps.take (t + 1), x.isPrefixOf p = false from fun h x hx => by
        rw [List.take_succ_eq_append_getElem htn] at hx
        rcases List.mem_append.1 hx with hx | hx
        · exact HNO.out x hx
        · simp only [List.mem_singleton] at hx
          subst hx
          exact h)
      clear hci hcl q3
      generalize ps[t].isPrefixOf p = b at *
      generalize ps[t] = pi at *
      cases b with
      | true =>
        have HX := hd (HIT.out rfl)
        go_wp2_with fail
        refine HR.out.mono ?_
        rintro e w1 ⟨rfl, hu1⟩
        have HU1 := hd (HU.out.trans hu1)
        clear hu1
        go_wp2_with fail
        go_ret
        exact ⟨by rw [HX.out]; rfl, HU1.out⟩
      | false =>
        have HX := hd (HSN.out rfl)
        go_wp2_with fail
        refine HR.out.mono ?_
        rintro e w1 ⟨rfl, hu1⟩
        have HU1 := hd (HU.out.trans hu1)
        clear hu1
        go_wp2_with fail
        go_roundw
        case rel => exact ⟨t + 1, by go_num, by omega, HX.out, HU1.out⟩
        case measure => simp [intOf]; omega
    · have htn' : ¬ (t : Int) < (ps.length : Int) := by omega
      have HX := hd (show gfind (fun x => x.isPrefixOf p) ps = -1 from gfind_miss _ _ (by
        have h := HNO.out
        rwa [List.take_of_length_le (by omega)] at h))
      go_wp2_with fail
      go_ret
      exact ⟨by rw [HX.out]; rfl, HU.out⟩
end Go.Proofs.YtfhmdeamhmjddaaDoor
