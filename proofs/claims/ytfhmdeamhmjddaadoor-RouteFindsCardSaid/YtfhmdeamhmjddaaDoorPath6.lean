/-
  path.Over, InLine, Up and the statements' Made, walked. Conditions: texts of sizes that there are; the library's variables hold what they are laid to hold.
-/
import Derived.Test.YtfhmdeamhmjddaaDoorPlain05b
import Derived.Test.YtfhmdeamhmjddaaDoorPath5
set_option linter.unusedVariables false
set_option linter.unusedSimpArgs false
set_option maxRecDepth 100000
namespace Go.Proofs.YtfhmdeamhmjddaaDoor
open Go.RowKit

set_option maxHeartbeats 4000000 in
theorem pover_any (p o : List UInt8) (w : World) : Calls Tryd.prog 25 #[.agg #[.string (txt p)], .agg #[.string (txt o)]] w fun e w' => e = .returned (.bool (overT p o)) ∧ Upd [] w w' := by
  have hb1 := Blk.new (w.alloc (.cells #[.string (txt p)] 24)) #[.string (txt o)] 24
  have hb0 := (Blk.new w #[.string (txt p)] 24).alloc (.cells #[.string (txt o)] 24)
  have e0 : ∃ W k j, w.heap.size = k ∧ k + 1 = j ∧ (w.alloc (.cells #[.string (txt p)] 24)).alloc (.cells #[.string (txt o)] 24) = W ∧ Upd [] w W ∧ Blk W k #[.string (txt p)] 24 ∧ Blk W j #[.string (txt o)] 24 :=
    ⟨_, _, _, rfl, rfl, rfl, ((Upd.refl _ _).alloc _).alloc _, hb0, by simpa using hb1⟩
  clear hb0 hb1
  have HC := hd (lib_cut o p)
  go_enter Tryd.func25, Tryd.ntmps25
  go_upto_region 1 with fail
  obtain ⟨W, k, j, hk, hj, hW, hu, hb, hb'⟩ := e0
  rw [hW, hk, hj]
  have HU := hd hu
  have hc := hb.cell
  have hc' := hb'.cell
  clear hW hk hj hu hb hb'
  rcases hp : p.isPrefixOf o with _ | _
  · have HF := hd (show overT p o = false by unfold overT; rw [hp]; rfl)
    rw [hp] at HC
    clear hp
    go_wp2_with fail
    refine (HC.out _).mono ?_
    rintro e w1 ⟨rfl, rfl⟩
    go_wp2_with fail
    go_ret
    exact ⟨by rw [HF.out]; rfl, HU.out⟩
  · have HT := hd (show overT p o = match o.drop p.length with
      | [] => true
      | c :: _ => decide (c = 47) by unfold overT; rw [hp]; rfl)
    rw [hp] at HC
    clear hp
    simp only [if_true] at HC
    rcases hr : o.drop p.length with _ | ⟨c, t⟩
    · rw [hr] at HC HT
      have hemp : (txt []).toList.isEmpty = true := by rw [txt_list]; rfl
      go_wp2_with fail
      refine (HC.out _).mono ?_
      rintro e w1 ⟨rfl, rfl⟩
      go_wp2_with fail
      go_ret
      exact ⟨by rw [HT.out]; rfl, HU.out⟩
    · rw [hr] at HC HT
      clear hr
      have hemp : (txt (c :: t)).toList.isEmpty = false := by rw [txt_list]; rfl
      have hsz0 : 0 < (txt (c :: t)).size := by rw [txt_size]; simp
      have hat0 : (txt (c :: t))[0]'hsz0 = c := txt_at (c :: t) 0 (by simp) hsz0
      have HAT := hd hat0
      by_cases hc47 : c = 47
      · have hb : (((txt (c :: t))[0]'hsz0).toNat : Int) = 47 := by rw [hat0, hc47]; rfl
        have HC47 := hd hc47
        clear hat0 hc47
        go_wp2_with fail
        refine (HC.out _).mono ?_
        rintro e w1 ⟨rfl, rfl⟩
        go_wp2_with fail
        go_ret
        exact ⟨by rw [HT.out]; simp [HC47.out], HU.out⟩
      · have hb : ((((txt (c :: t))[0]'hsz0).toNat : Int) == 47) = false := by
          rw [hat0]
          simp only [beq_eq_false_iff_ne, ne_eq]
          intro e
          exact hc47 (UInt8.toNat.inj (by show c.toNat = 47; omega))
        have HC47 := hd hc47
        clear hat0 hc47
        go_wp2_with fail
        refine (HC.out _).mono ?_
        rintro e w1 ⟨rfl, rfl⟩
        go_wp2_with fail
        go_ret
        exact ⟨by rw [HT.out]; simp [HC47.out], HU.out⟩

theorem pinline_any (p o : List UInt8) (w : World) : Calls Tryd.prog 27 #[.agg #[.string (txt p)], .agg #[.string (txt o)]] w fun e w' => e = .returned (.bool (overT p o || overT o p)) ∧ Upd [] w w' := by
  have hb1 := Blk.new (w.alloc (.cells #[.string (txt p)] 24)) #[.string (txt o)] 24
  have hb0 := (Blk.new w #[.string (txt p)] 24).alloc (.cells #[.string (txt o)] 24)
  have e0 : ∃ W k j, w.heap.size = k ∧ k + 1 = j ∧ (w.alloc (.cells #[.string (txt p)] 24)).alloc (.cells #[.string (txt o)] 24) = W ∧ Upd [] w W ∧ Blk W k #[.string (txt p)] 24 ∧ Blk W j #[.string (txt o)] 24 :=
    ⟨_, _, _, rfl, rfl, rfl, ((Upd.refl _ _).alloc _).alloc _, hb0, by simpa using hb1⟩
  clear hb0 hb1
  have HC := hd (pover_any p o)
  have HC' := hd (pover_any o p)
  have HE := hd (show ∃ a b, overT p o = a ∧ overT o p = b from ⟨_, _, rfl, rfl⟩)
  obtain ⟨a, b, ha, hb⟩ := HE.out
  rw [ha] at HC ⊢
  rw [hb] at HC' ⊢
  clear ha hb HE
  go_enter Tryd.func27, Tryd.ntmps27
  go_upto_region 1 with fail
  obtain ⟨W, k, j, hk, hj, hW, hu, hb, hb'⟩ := e0
  rw [hW, hk, hj]
  have HU := hd hu
  have HB := hd hb
  have HB' := hd hb'
  have hc := hb.cell
  have hc' := hb'.cell
  clear hW hk hj hu hb hb'
  rcases a with _ | _
  · go_wp2_with fail
    refine (HC.out _).mono ?_
    rintro e w1 ⟨rfl, hu1⟩
    have hc1 := (HB.out.upd hu1 (by simp)).cell
    have hc1' := (HB'.out.upd hu1 (by simp)).cell
    have HU1 := hd (HU.out.trans hu1)
    clear hc hc' hu1
    go_wp2_with fail
    refine (HC'.out _).mono ?_
    rintro e w2 ⟨rfl, hu2⟩
    go_wp2_with fail
    go_ret
    exact ⟨by simp, HU1.out.trans hu2⟩
  · go_wp2_with fail
    refine (HC.out _).mono ?_
    rintro e w1 ⟨rfl, hu1⟩
    go_wp2_with fail
    go_ret
    exact ⟨by simp, HU.out.trans hu1⟩

/-- A path's text and its parts, as the statements' Made makes them. -/
theorem one_made (x : List UInt8) : madeL [x] = partL x := by unfold madeL; simp
set_option maxHeartbeats 8000000 in
theorem lmade_any (l : List (List UInt8)) (v : Value) (w : World) (hD : Door w) (hv : TxsAt w v l) (hl : ∀ x ∈ l, x.length ≤ 9223372036854775807) :
    Calls Tryd.prog 22 #[v] w fun e w' => ∃ u, e = .returned (.tuple #[.agg #[.string (txt (textL (mk6 l)))], u]) ∧ Upd [] w w' ∧ StrRow w.heap.size w' u (mk6 l) := by
  have HD := hd hD
  have HV := hd hv
  obtain ⟨a, c, rfl, hc, hm, -⟩ := hv
  have hb0 := Blk.new w #[.string ⟨#[]⟩] 24
  have e0 : ∃ W k, w.heap.size = k ∧ w.alloc (.cells #[.string ⟨#[]⟩] 24) = W ∧ Upd [] w W ∧ Blk W k #[.string ⟨#[]⟩] 24 := ⟨_, _, rfl, rfl, (Upd.refl _ _).alloc _, hb0⟩
  clear hD hb0
  go_enter Tryd.func22, Tryd.ntmps22
  go_upto_region 1 with fail
  obtain ⟨W0, k, hk, hW0, hu0, hb0⟩ := e0
  rw [hW0, hk]
  have HKL := hd (show w.heap.size ≤ k by omega)
  have HU0 := hd hu0
  have HB0 := hd hb0
  clear hW0 hk hu0 hb0
  go_upto_block 0 with fail
  go_cut [4] (fun s4 wx => Upd [] w wx ∧ Blk wx k #[.string ⟨#[]⟩] 24 ∧ StrRow w.heap.size wx s4 (mk6 l))
  case first =>
    go_wp2_with fail
    go_loopw [4, 5] (fun s4 s5 wr => ∃ t : Nat, s5 = .int .i64 t ∧ t ≤ l.length ∧ Upd [] w wr ∧ Blk wr k #[.string ⟨#[]⟩] 24 ∧ StrRow w.heap.size wr s4 (mk6 (l.take t))) (fun _ s5 _ => l.length - (intOf s5).toNat)
    case atStart => exact ⟨0, rfl, by omega, HU0.out, HB0.out, World.ownsRow_nil _ _ _ _⟩
    case round =>
      obtain ⟨t, rfl, ht, hu, hbk, hrow⟩ := hrel
      have HU := hd hu
      have HBK := hd hbk
      have HROW := hd hrow
      have HF := hd (mk6_fine (l.take t)).2
      obtain ⟨a4, c4, rfl, -⟩ := own_open hrow
      have HSZ := hd (show w.heap.size ≤ wr.heap.size from hu.size)
      clear hu hbk hrow
      by_cases htn : t < l.length
      · have htn' : (t : Int) < (l.length : Int) := by omega
        by_cases h6 : (mk6 (l.take t)).length < 6
        · have h6' : ((mk6 (l.take t)).length : Int) < 6 := by omega
          obtain ⟨a', c', e, q1, q2, q3⟩ := HV.out
          simp only [Value.slice.injEq] at e
          obtain ⟨rfl, -, rfl⟩ := e
          obtain ⟨kl, ol, rfl, hkl, hcl⟩ := q3 (by omega)
          have hc0 : wr.cell? ⟨kl, ol + t, none⟩ = some (.string (txt l[t])) := by rw [← hcl t htn]; exact World.cell?_of_block (HU.out.block kl hkl (by simp))
          have hx := hl l[t] (List.getElem_mem _)
          have hklw : kl < wr.heap.size := by have := HU.out.size; omega
          have HN := hd (mk6_next l t htn h6)
          have HRM := hd (rmade_any [l[t]] (.slice (some ⟨wr.heap.size, 0, none⟩) 1 1) (wr.alloc (.cells #[.string (txt l[t])] 9)) (blk_strs (l := [l[t]]) (Blk.new wr #[.string (txt l[t])] 9) rfl (by simp)) (by intro x hx'; simp at hx'; rw [hx']; exact hx))
          rw [one_made] at HRM
          have hc1 : (wr.alloc (.cells #[.string (txt l[t])] 9)).cell? ⟨kl, ol + t, none⟩ = some (.string (txt l[t])) := (World.cell?_alloc_lt _ _ ⟨kl, ol + t, none⟩ hklw).trans hc0
          have HL6 := hd h6
          clear hcl q3 h6
          generalize l[t] = x at *
          rcases hp : partL x with _ | _
          · rw [hp] at HRM HN
            simp only [Bool.false_eq_true, if_false] at HN
            clear hp
            go_wp2_with fail
            refine HRM.out.mono ?_
            rintro e w1 ⟨rfl, rfl⟩
            go_wp2_with fail
            go_roundw
            case rel => exact ⟨t + 1, by go_num, by omega, HU.out.alloc _, HBK.out.alloc _, by rw [HN.out]; exact own_upd (L := []) HROW.out ((Upd.refl _ _).alloc _) (by simp)⟩
            case measure => simp [intOf]; omega
          · rw [hp] at HRM HN
            simp only [if_true] at HN
            clear hp
            have hu5 : Upd [] wr (wr.alloc (.cells #[.string (txt x)] 9)) := (Upd.refl _ _).alloc _
            have HR5 := hd (own_upd (L := []) HROW.out hu5 (by simp))
            clear hu5
            go_wp2_with fail
            refine HRM.out.mono ?_
            rintro e w1 ⟨rfl, rfl⟩
            go_wp2_with (at_builtin; refine strAppend rfl (.tmp 25) (.tmp 30) rfl w.heap.size _ (mk6 (l.take t)) x rfl (own_upd (L := []) HR5.out ((Upd.refl _ _).alloc _) (by simp)) (wr.heap.size + 1) rfl (Blk.new' _ _ _ (by simp)) ?d1 ?d2 ?_)
            case d1 => have := HF.out; omega
            case d2 => have := HSZ.out; simp; omega
            intro v6 w6 hown6 hgr6 hblk6
            have hx5 : Upd (Value.slice a4 (mk6 (l.take t)).length c4).ownBlock.toList wr w6 := (((Upd.refl _ wr).alloc (.cells #[.string (txt x)] 9)).alloc (.cells #[.string (txt x)] 9)).trans hgr6
            have HU6 := hd (HU.out.trans' hx5 (fun i hi => .inr (own_ge HROW.out i (by simpa using hi)).1))
            have HB6 := hd (HBK.out.upd hx5 (fun hm => own_ne_any HROW.out HBK.out (by decide) k (by simpa using hm) rfl))
            have HO6 := hd hown6
            obtain ⟨a6, c6, rfl, -⟩ := own_open hown6
            clear hown6 hgr6 hblk6 hx5
            go_wp2_with fail
            go_roundw
            case rel => exact ⟨t + 1, by go_num, by omega, HU6.out, HB6.out, by rw [HN.out]; simpa using HO6.out⟩
            case measure => simp [intOf]; omega
        · have h6' : ¬ ((mk6 (l.take t)).length : Int) < 6 := by omega
          have HE := hd (mk6_end l t (by have := HF.out; omega))
          go_wp2_with fail
          go_meet
          case rel => exact ⟨HU.out, HBK.out, by rw [HE.out]; exact HROW.out⟩
      · have htn' : ¬ (t : Int) < (l.length : Int) := by omega
        have HE := hd (show l.take t = l from List.take_of_length_le (by omega))
        go_wp2_with fail
        go_meet
        case rel => exact ⟨HU.out, HBK.out, by have h := HROW.out; rw [HE.out] at h ⊢; exact h⟩
  case rest =>
    obtain ⟨hu, hb, hrow⟩ := hcut
    obtain ⟨a4, c4, rfl, -⟩ := own_open hrow
    have hfine := mk6_fine l
    have HPM := hd (pmade_any (mk6 l) _ _ (HD.out.later hu) (row_strs hrow) (fun x hx => by have := (part_short (hfine.1 x hx)).1; omega))
    have HM := hd (show made5 (mk6 l) = some (mk6 l) by
      unfold made5 madeL
      rw [List.all_eq_true.2 hfine.1, decide_eq_true hfine.2]
      rfl)
    rw [HM.out] at HPM
    have HU := hd hu
    have HB := hd hb
    have HROW := hd hrow
    clear hu hb hrow hfine
    go_wp2_with fail
    refine HPM.out.mono ?_
    rintro e w5 ⟨p, ev, rfl, hu5, rfl, rfl⟩
    have e5 : ∃ W6 j, w5.heap.size = j ∧ w5.alloc (.cells #[.string (txt (textL (mk6 l)))] 24) = W6 ∧ Upd [] w5 W6 ∧ Blk W6 j #[.string (txt (textL (mk6 l)))] 24 := ⟨_, _, rfl, rfl, (Upd.refl _ _).alloc _, Blk.new _ _ _⟩
    have hkw5 : k < w5.heap.size := Nat.lt_of_lt_of_le HB.out.lt hu5.size
    go_upto_region 8 with fail
    obtain ⟨W6, j, hj, hW6, hu6, hb6⟩ := e5
    rw [hW6, hj]
    have hbk := HB.out.upd (hu5.trans hu6) (by simp)
    have hx : Upd [k] W6 (W6.setCell ⟨k, 0, none⟩ (.string (txt (textL (mk6 l))))) := (Upd.refl _ _).setCell (by simp) _
    have HF := hd (((HU.out.trans hu5).trans hu6).trans' hx (by intro i hi; have := HKL.out; simp only [List.mem_cons, List.not_mem_nil, or_false] at hi; omega))
    have HR6 := hd (own_upd (L := []) HROW.out (hu5.trans hu6) (by simp))
    have HR7 := hd (own_upd HR6.out hx (fun i hi hm => by
      simp only [List.mem_cons, List.not_mem_nil, or_false] at hm
      subst hm
      exact own_ne_any HR6.out hbk (by decide) _ hi rfl))
    have HBF := hd (hbk.set 0 (.string (txt (textL (mk6 l)))))
    have hkc := hbk.cell
    have hkz := hbk.frozen
    have hjc := hb6.cell
    have hjk : ¬ k = j := by omega
    clear hu5 hu6 hb6 hbk hW6 hj hx hkw5
    go_wp2_with fail
    refine bodyPost_ret (results_path _ rfl _ _ k _ rfl HBF.out) rfl ?_
    exact ⟨_, rfl, HF.out, HR7.out⟩
end Go.Proofs.YtfhmdeamhmjddaaDoor
