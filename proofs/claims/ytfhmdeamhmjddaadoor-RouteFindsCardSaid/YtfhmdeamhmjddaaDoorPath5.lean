/-
  The document's Parse, walked. Conditions: texts of sizes that there are.
-/
import Derived.Test.YtfhmdeamhmjddaaDoorPath4
set_option linter.unusedVariables false
set_option linter.unusedSimpArgs false
set_option maxRecDepth 100000
namespace Go.Proofs.YtfhmdeamhmjddaaDoor
open Go.RowKit

theorem splitL_slash (a : List UInt8) : splitL (a ++ [47]) = splitL a ++ [[]] := by
  induction a with
  | nil => rfl
  | cons b a ih =>
    rw [List.cons_append, splitL_cons, splitL_cons, ih]
    by_cases hb : b = 47
    · rw [if_pos hb, if_pos hb]; rfl
    · rw [if_neg hb, if_neg hb]
      cases hs : splitL a with
      | nil => exact absurd hs (splitL_ne a)
      | cons y q => rfl
theorem splitL_snoc (c : UInt8) (hc : c ≠ 47) (a : List UInt8) : ∀ (o : List (List UInt8)) (x : List UInt8), splitL a = o ++ [x] → splitL (a ++ [c]) = o ++ [x ++ [c]] := by
  induction a with
  | nil =>
    intro o x h
    have h1 : splitL [] = [[]] := rfl
    rw [h1] at h
    cases o with
    | nil =>
      simp at h
      subst h
      simp [splitL, hc]
    | cons y o => simp at h
  | cons b a ih =>
    intro o x h
    rw [List.cons_append, splitL_cons]
    rw [splitL_cons] at h
    by_cases hb : b = 47
    · rw [if_pos hb] at h ⊢
      cases o with
      | nil =>
        simp at h
        exact absurd h.2 (splitL_ne a)
      | cons y o =>
        simp only [List.cons_append, List.cons.injEq] at h
        rw [ih o x h.2, ← h.1]
        rfl
    · rw [if_neg hb] at h ⊢
      cases hs : splitL a with
      | nil => exact absurd hs (splitL_ne a)
      | cons y q =>
        rw [hs] at h
        simp only at h
        cases o with
        | nil =>
          simp only [List.nil_append, List.cons.injEq] at h
          obtain ⟨h1, h2⟩ := h
          subst h2
          rw [ih [] y (by rw [hs]; rfl)]
          subst h1
          rfl
        | cons z o =>
          simp only [List.cons_append, List.cons.injEq] at h
          obtain ⟨h1, h2⟩ := h
          rw [ih (y :: o) x (by rw [hs, h2]; rfl)]
          subst h1
          rfl
theorem splitL_last (a : List UInt8) : ∃ o x, splitL a = o ++ [x] := by
  have := splitL_ne a
  exact ⟨(splitL a).dropLast, (splitL a).getLast this, (List.dropLast_concat_getLast this).symm⟩
/-- What the document's Parse answers. -/
def Parts (w : World) (v : Value) (b : Bool) (o : Option (List (List UInt8))) : Prop :=
  match o with
  | some l => b = true ∧ TxsAt w v l
  | none => b = false
theorem txt_one (s : List UInt8) (t : Nat) (h : t < s.length) : (txt s).extract t (t + 1) = txt [s[t]] := by
  apply ByteArray.ext
  simp only [txt, ByteArray.data_extract]
  rw [List.extract_toArray, List.extract_eq_take_drop]
  congr 1
  rw [show t + 1 - t = 1 by omega, List.drop_eq_getElem_cons h]
  rfl

set_option maxHeartbeats 8000000 in
theorem rparse_any (s : List UInt8) (w : World) (hs : s.length ≤ 100000) :
    Calls Tryd.prog 12 #[.string (txt s)] w fun e w' => ∃ v b, e = .returned (.tuple #[v, .bool b]) ∧ Upd [] w w' ∧ Parts w' v b (parse5 s) := by
  have e0 : ∃ W k, w.heap.size = k ∧ w.alloc (.cells #[] 9) = W ∧ Upd [] w W ∧ StrRow w.heap.size W (.slice (some ⟨k, 0, none⟩) 0 0) [] := ⟨_, _, rfl, rfl, (Upd.refl _ _).alloc _, rfl, .inr ⟨w.heap.size, 0, #[], rfl, Nat.le_refl _, Blk.new _ _ _, Nat.le_refl _, by unfold maxLen; omega, rfl, rfl⟩⟩
  go_enter Tryd.func12, Tryd.ntmps12
  go_upto_region 2 with fail
  obtain ⟨W0, k, hk, hW0, hu0, hr0⟩ := e0
  rw [hW0, hk]
  have HU0 := hd hu0
  have HR0 := hd hr0
  clear hW0 hk hu0 hr0
  by_cases h1 : s = [47]
  · subst h1
    have he : ((txt [47]).toList == [47]) = true := by rw [txt_list]; rfl
    go_wp2_with fail
    go_ret2
    exact ⟨_, _, rfl, HU0.out, rfl, row_strs HR0.out⟩
  · have he : ((txt s).toList == [47]) = false := by rw [txt_list]; simpa using h1
    by_cases h47 : ∃ r, s = 47 :: r
    · obtain ⟨r, rfl⟩ := h47
      have HM := hd (show parse5 (47 :: r) = made5 (splitL r) by
        unfold parse5 made5
        rw [if_neg h1]
        simp)
      have hemp : (txt (47 :: r)).toList.isEmpty = false := by rw [txt_list]; rfl
      have hsz0 : 0 < (txt (47 :: r)).size := by rw [txt_size]; simp
      have hat0 : (txt (47 :: r))[0]'hsz0 = 47 := txt_at (47 :: r) 0 (by simp) hsz0
      have hat1 : (((txt (47 :: r))[0]'hsz0).toNat : Int) = 47 := by rw [hat0]; rfl
      have hlen : (47 :: r).length = r.length + 1 := rfl
      clear h1 hat0
      go_upto_region 4 with fail
      go_cut [17] (fun c wx => c = .bool false ∧ wx = W0)
      case first =>
        go_wp2_with fail
        go_meet
        case rel => exact ⟨rfl, rfl⟩
      case rest =>
        obtain ⟨rfl, rfl⟩ := hcut
        have HBW := hd (show w.heap.size ≤ wc.heap.size from HU0.out.size)
        have hrl : r.length ≤ 100000 := by simp at hs; omega
        have HRL := hd hrl
        clear hat1 hemp
        go_upto_block 0 with fail
        go_cut [4] (fun s4 wx => Upd [] w wx ∧ StrRow w.heap.size wx s4 (splitL r))
        case first =>
          go_wp2_with fail
          go_loopw [4, 5, 6] (fun s4 s5 s6 wr => Upd [] w wr ∧ ∃ i : Nat, s6 = .int .i64 i ∧ 1 ≤ i ∧
            ((i ≤ r.length + 1 ∧ ∃ o x, splitL (r.take (i - 1)) = o ++ [x] ∧ s5 = .string (txt x) ∧ StrRow w.heap.size wr s4 o) ∨ (i = r.length + 2 ∧ StrRow w.heap.size wr s4 (splitL r)))) (fun _ _ s6 _ => r.length + 2 - (intOf s6).toNat)
          case atStart => exact ⟨HU0.out, 1, rfl, by omega, .inl ⟨by omega, [], [], rfl, rfl, HR0.out⟩⟩
          case round =>
            obtain ⟨hu, i, rfl, hi1, hcase⟩ := hrel
            have HU := hd hu
            clear hu
            rcases hcase with ⟨hur, o, x, hsp, rfl, hrow⟩ | ⟨hur, hrow⟩
            · have HROW := hd hrow
              have HSP := hd hsp
              have hlx : o.length ≤ 100001 ∧ x.length ≤ 100000 := by
                have h1 := splitL_length (r.take (i - 1))
                rw [hsp, List.length_append] at h1
                have h2 := List.count_le_length (a := (47 : UInt8)) (l := r.take (i - 1))
                rw [List.length_take] at h2
                have h4 := HRL.out
                have h3 := text_split (r.take (i - 1))
                rw [hsp, text_app] at h3
                have h5 := congrArg List.length h3
                simp [textL] at h5
                simp at h1
                constructor <;> omega
              obtain ⟨a3, c3, rfl, -⟩ := own_open hrow
              have HON := hd hlx.1
              have HXN := hd hlx.2
              have HUW := hd (show w.heap.size ≤ wr.heap.size from HU.out.size)
              clear hrow hsp hlx
              have h1 : (i : Int) ≤ (r.length : Int) + 1 := by omega
              by_cases hue : i = r.length + 1
              · have h2 : ((i : Int) == (r.length : Int) + 1) = true := by simp; omega
                have HE := hd (show splitL r = o ++ [x] by rw [← HSP.out, hue, show r.length + 1 - 1 = r.length by omega, List.take_length])
                have HUE := hd hue
                clear hue hur
                go_wp2_with (at_builtin; refine strAppend rfl (.tmp 35) (.tmp 37) rfl w.heap.size _ o x rfl (own_upd (L := []) HROW.out ((Upd.refl _ _).alloc _) (by simp)) wr.heap.size rfl (Blk.new _ _ _) ?d1 ?d2 ?_)
                case d1 => have := HON.out; omega
                case d2 => have := HBW.out; have := HUW.out; simp; omega
                intro v5 w5 hown5 hgr5 hblk5
                have HU5 := hd ((HU.out.alloc (.cells #[.string (txt x)] 9)).trans' hgr5 (fun i hi => .inr (own_ge HROW.out i (by simpa using hi)).1))
                have HO5 := hd hown5
                obtain ⟨a5, c5, rfl, -⟩ := own_open hown5
                clear hown5 hgr5 hblk5
                go_wp2_with fail
                go_roundw
                case rel => exact ⟨HU5.out, i + 1, by go_num, by omega, .inr ⟨by have := HUE.out; omega, by rw [HE.out]; simpa using HO5.out⟩⟩
                case measure => have := HUE.out; simp [intOf]; omega
              · have hul : i - 1 < r.length := by omega
                have h2 : ((i : Int) == (r.length : Int) + 1) = false := by simp; omega
                have h3 : (i : Int) < (r.length : Int) + 1 := by omega
                have h4 : (i : Int) + 1 ≤ (r.length : Int) + 1 := by omega
                have hsz : i < (txt (47 :: r)).size := by rw [txt_size]; simp; omega
                have hri : (47 :: r)[i]'(by simp; omega) = r[i - 1] := by
                  obtain ⟨j, rfl⟩ : ∃ j, i = j + 1 := ⟨i - 1, by omega⟩
                  rfl
                have hat : (txt (47 :: r))[i]'hsz = r[i - 1] := (txt_at (47 :: r) i (by simp; omega) hsz).trans hri
                have hex : (txt (47 :: r)).extract i (i + 1) = txt [r[i - 1]] := (txt_one (47 :: r) i (by simp; omega)).trans (congrArg (fun c => txt [c]) hri)
                have HTK := hd (show r.take (i + 1 - 1) = r.take (i - 1) ++ [r[i - 1]] by
                  rw [show i + 1 - 1 = (i - 1) + 1 by omega]
                  exact List.take_succ_eq_append_getElem hul)
                generalize r[i - 1] = c at *
                have HUL := hd hul
                clear hul hue hri
                by_cases hc : c = 47
                · subst hc
                  have hb : (((txt (47 :: r))[i]'hsz).toNat : Int) = 47 := by rw [hat]; rfl
                  have HE := hd (show splitL (r.take (i + 1 - 1)) = (o ++ [x]) ++ [[]] by rw [HTK.out, splitL_slash, HSP.out])
                  clear hat hex
                  go_wp2_with (at_builtin; refine strAppend rfl (.tmp 35) (.tmp 37) rfl w.heap.size _ o x rfl (own_upd (L := []) HROW.out ((Upd.refl _ _).alloc _) (by simp)) wr.heap.size rfl (Blk.new _ _ _) ?d1 ?d2 ?_)
                  case d1 => have := HON.out; omega
                  case d2 => have := HBW.out; have := HUW.out; simp; omega
                  intro v5 w5 hown5 hgr5 hblk5
                  have HU5 := hd ((HU.out.alloc (.cells #[.string (txt x)] 9)).trans' hgr5 (fun i hi => .inr (own_ge HROW.out i (by simpa using hi)).1))
                  have HO5 := hd hown5
                  obtain ⟨a5, c5, rfl, -⟩ := own_open hown5
                  clear hown5 hgr5 hblk5
                  go_wp2_with fail
                  go_roundw
                  case rel => exact ⟨HU5.out, i + 1, by go_num, by omega, .inl ⟨by omega, o ++ [x], [], HE.out, rfl, by simpa using HO5.out⟩⟩
                  case measure => simp [intOf]; omega
                · have hb : ((((txt (47 :: r))[i]'hsz).toNat : Int) == 47) = false := by
                    rw [hat]
                    simp only [beq_eq_false_iff_ne, ne_eq]
                    intro e
                    exact hc (UInt8.toNat.inj (by show c.toNat = 47; omega))
                  have HE := hd (show splitL (r.take (i + 1 - 1)) = o ++ [x ++ [c]] by rw [HTK.out, splitL_snoc c hc _ _ _ HSP.out])
                  have hs1 := add_txt' x [c] (by have := HXN.out; simp; omega)
                  clear hat hc
                  go_wp2_with fail
                  go_roundw
                  case rel => exact ⟨HU.out, i + 1, by go_num, by omega, .inl ⟨by omega, o, x ++ [c], HE.out, by first | rfl | simp, HROW.out⟩⟩
                  case measure => simp [intOf]; omega
            · have h1 : ¬ (i : Int) ≤ (r.length : Int) + 1 := by omega
              obtain ⟨a3, c3, rfl, -⟩ := own_open hrow
              have HROW := hd hrow
              clear hrow
              go_wp2_with fail
              go_meet
              case rel => exact ⟨HU.out, HROW.out⟩
        case rest =>
          obtain ⟨hu, hrow⟩ := hcut
          obtain ⟨a4, c4, rfl, -⟩ := own_open hrow
          have HMD := hd (rmade_any (splitL r) _ _ (row_strs hrow) (by
            intro x hx
            have h1 := text_split r
            have h2 : ∀ l : List (List UInt8), x ∈ l → x.length ≤ (textL l).length := fun l hl => by
              induction l with
              | nil => cases hl
              | cons y l ih =>
                simp only [textL, List.cons_append, List.length_cons, List.length_append]
                rcases List.mem_cons.1 hl with rfl | h
                · omega
                · have := ih h; omega
            have h3 := h2 _ hx
            rw [h1] at h3
            have h4 := HRL.out
            simp at h3
            omega))
          have HU := hd hu
          have HROW := hd hrow
          have HM2 := hd (show made5 (splitL r) = if madeL (splitL r) then some (splitL r) else none from rfl)
          clear hu hrow
          generalize madeL (splitL r) = b at *
          rcases b with _ | _
          · go_wp2_with fail
            refine HMD.out.mono ?_
            rintro e w1 ⟨rfl, rfl⟩
            go_wp2_with fail
            go_ret2
            refine ⟨_, _, rfl, HU.out.alloc _, ?_⟩
            rw [HM.out, HM2.out]
            rfl
          · go_wp2_with fail
            refine HMD.out.mono ?_
            rintro e w1 ⟨rfl, rfl⟩
            go_wp2_with fail
            go_ret2
            refine ⟨_, _, rfl, HU.out, ?_⟩
            rw [HM.out, HM2.out]
            exact ⟨rfl, row_strs HROW.out⟩
    · have hno : ∀ r, s ≠ 47 :: r := fun r e => h47 ⟨r, e⟩
      have HM := hd (show parse5 s = none by
        unfold parse5
        rw [if_neg h1]
        cases s with
        | nil => rfl
        | cons c r =>
          have : c ≠ 47 := fun e => hno r (by rw [e])
          simp [this])
      clear h1 h47
      cases s with
      | nil =>
        have hemp : (txt []).toList.isEmpty = true := by rw [txt_list]; rfl
        go_wp2_with fail
        go_ret2
        refine ⟨_, _, rfl, HU0.out, ?_⟩
        rw [HM.out]
        rfl
      | cons c r =>
        have hc : c ≠ 47 := fun e => hno r (by rw [e])
        have hemp : (txt (c :: r)).toList.isEmpty = false := by rw [txt_list]; rfl
        have hsz0 : 0 < (txt (c :: r)).size := by rw [txt_size]; simp
        have hat0 : (txt (c :: r))[0]'hsz0 = c := txt_at (c :: r) 0 (by simp) hsz0
        have hb : ((((txt (c :: r))[0]'hsz0).toNat : Int) != 47) = true := by
          rw [hat0]
          simp only [bne_iff_ne, ne_eq]
          intro e
          exact hc (UInt8.toNat.inj (by show c.toNat = 47; omega))
        clear hat0 hno hc
        go_wp2_with fail
        go_ret2
        refine ⟨_, _, rfl, HU0.out, ?_⟩
        rw [HM.out]
        rfl
end Go.Proofs.YtfhmdeamhmjddaaDoor
