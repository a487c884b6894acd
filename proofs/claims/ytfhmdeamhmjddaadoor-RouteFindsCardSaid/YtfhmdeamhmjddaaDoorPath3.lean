/-
  path.Parse, Text, Parts, Depth and the document's Made and Parse, walked. Conditions: texts of sizes that there are; the library's variables hold what they are laid to hold.
-/
import Derived.Test.YtfhmdeamhmjddaaDoorPath2
set_option linter.unusedVariables false
set_option linter.unusedSimpArgs false
set_option maxRecDepth 100000
namespace Go.Proofs.YtfhmdeamhmjddaaDoor
open Go.RowKit

theorem lib_cut_yes (r : List UInt8) (w : World) : Calls Tryd.prog 37 #[.string (txt (47 :: r)), .string ⟨#[47]⟩] w fun e w' => e = .returned (.tuple #[.string (txt r), .bool true]) ∧ w = w' := by
  have h := lib_cut (47 :: r) [47] w
  rw [show ([47] : List UInt8).isPrefixOf (47 :: r) = true by simp [List.isPrefixOf]] at h
  exact h
theorem lib_cut_no (s : List UInt8) (w : World) (h47 : ∀ r, s ≠ 47 :: r) : Calls Tryd.prog 37 #[.string (txt s), .string ⟨#[47]⟩] w fun e w' => e = .returned (.tuple #[.string (txt s), .bool false]) ∧ w = w' := by
  have h := lib_cut s [47] w
  have hp : ([47] : List UInt8).isPrefixOf s = false := by
    cases s with
    | nil => rfl
    | cons c r =>
      have : c ≠ 47 := fun e => h47 r (by rw [e])
      simp [List.isPrefixOf]
      exact fun e => this e.symm
  rw [hp] at h
  exact h
theorem Answer.shape {w : World} {v ev : Value} {o : Option (List (List UInt8))} (h : Answer w v ev o) : ∃ T, v = .agg #[.string T] := by
  unfold Answer at h
  split at h
  · exact ⟨_, h.1⟩
  · exact ⟨_, h.1⟩
theorem Answer.later {w w' : World} {v ev : Value} {o : Option (List (List UInt8))} {Ls : List Nat} (h : Answer w v ev o) (hu : Upd Ls w w') (hn : ∀ k c, Blk w k c 71 → k ∉ Ls) : Answer w' v ev o := by
  unfold Answer at h ⊢
  split at h
  · exact h
  · exact ⟨h.1, h.2.keep hu hn⟩

set_option maxHeartbeats 4000000 in
theorem pparse_any (s : List UInt8) (w : World) (hD : Door w) (hs : s.length ≤ 1000000) :
    Calls Tryd.prog 11 #[.string (txt s)] w fun e w' => ∃ p ev, e = .returned (.tuple #[p, ev]) ∧ Upd [] w w' ∧ Answer w' p ev (parse5 s) := by
  have HD := hd hD
  have HW := hd (fun W (h : Door W) => pwrong_any W h)
  have hb0 := Blk.new w #[.string ⟨#[]⟩] 24
  have e0 : ∃ W k, w.heap.size = k ∧ w.alloc (.cells #[.string ⟨#[]⟩] 24) = W ∧ Upd [] w W ∧ Blk W k #[.string ⟨#[]⟩] 24 := ⟨_, _, rfl, rfl, (Upd.refl _ _).alloc _, hb0⟩
  clear hD hb0
  go_enter Tryd.func11, Tryd.ntmps11
  go_upto_region 1 with fail
  obtain ⟨W0, k, hk, hW0, hu0, hb0⟩ := e0
  rw [hW0, hk]
  have HKL := hd (show w.heap.size ≤ k by omega)
  have HU0 := hd hu0
  have HB0 := hd hb0
  clear hW0 hk hu0 hb0
  have KEY : ∀ (W1 W2 : World) (x : Value), Upd [] W0 W1 → W2 = W1.setCell ⟨k, 0, none⟩ x → Upd [] w W2 ∧ Blk W2 k #[x] 24 ∧ (∀ v ev o, Answer W1 v ev o → Answer W2 v ev o) := fun W1 W2 x h e => by
    subst e
    have hb := HB0.out.upd h (by simp)
    have hu2 : Upd [k] W1 (W1.setCell ⟨k, 0, none⟩ x) := (Upd.refl _ _).setCell (by simp) _
    refine ⟨(HU0.out.trans h).trans' hu2 (by intro i hi; have := HKL.out; simp only [List.mem_cons, List.not_mem_nil, or_false] at hi; omega), hb.set 0 x, fun v ev o ha => ha.later hu2 (fun q c hq hm => ?_)⟩
    simp only [List.mem_cons, List.not_mem_nil, or_false] at hm
    exact blk_ne hq hb (by decide) hm
  have HKEY := hd KEY
  clear KEY
  by_cases h1 : s = [47]
  · subst h1
    have he : ((txt [47]).toList == [47]) = true := by rw [txt_list]; rfl
    have hbz := HB0.out.frozen
    have hbc := HB0.out.cell
    have hq := hd (HKEY.out W0 _ (.string ⟨#[]⟩) (Upd.refl _ _) rfl)
    go_wp2_with fail
    refine bodyPost_ret (results_path _ rfl _ _ k _ rfl hq.out.2.1) rfl ?_
    exact ⟨_, _, rfl, hq.out.1, rfl, rfl⟩
  · have he : ((txt s).toList == [47]) = false := by rw [txt_list]; simpa using h1
    by_cases h47 : ∃ r, s = 47 :: r
    · obtain ⟨r, rfl⟩ := h47
      have HM := hd (show parse5 (47 :: r) = made5 (splitL r) by
        unfold parse5 made5
        rw [if_neg h1]
        simp)
      have HC := hd (lib_cut_yes r)
      have hrl : r.length ≤ 1000000 := by simp at hs; omega
      have HS := hd (fun W (h : Door W) => lib_split r W h (by omega))
      have HSL := hd (show ∀ x ∈ splitL r, x.length ≤ 9223372036854775807 by
        intro x hx
        have h1 := text_split r
        have h2 : ∀ l : List (List UInt8), x ∈ l → x.length ≤ (textL l).length := fun l hl => by
          induction l with
          | nil => cases hl
          | cons y l ih =>
            simp only [textL, List.cons_append, List.length_cons, List.length_append]
            rcases List.mem_cons.1 hl with rfl | h
            · omega
            · have := ih h; omega
        have := h2 _ hx
        rw [h1] at this
        simp at this
        simp at hs
        omega)
      have HLN := hd (show (splitL r).length ≤ 1000001 by
        rw [splitL_length]
        have := List.count_le_length (a := (47 : UInt8)) (l := r)
        omega)
      clear h1 hs
      go_wp2_with fail
      refine (HC.out _).mono ?_
      rintro e w1 ⟨rfl, rfl⟩
      go_wp2_with fail
      refine (HS.out _ (HD.out.later HU0.out)).mono ?_
      rintro e w2 ⟨rfl, hu2, hb2⟩
      have HMD := hd (pmade_any (splitL r) _ w2 (HD.out.later (HU0.out.trans hu2)) (blk_strs hb2 rfl (by have := HLN.out; omega)) HSL.out)
      have HU2 := hd hu2
      clear hu2 hb2
      go_wp2_with fail
      refine HMD.out.mono ?_
      rintro e w3 ⟨p, ev, rfl, hu3, hans⟩
      obtain ⟨T, rfl⟩ := hans.shape
      have hb3 := HB0.out.upd (HU2.out.trans hu3) (by simp)
      have hbz := hb3.frozen
      have hbc := hb3.cell
      have hq := hd (HKEY.out w3 _ (.string T) (HU2.out.trans hu3) rfl)
      have HA := hd (hq.out.2.2 _ _ _ hans)
      clear hb3 hu3 hans HMD
      go_wp2_with fail
      refine bodyPost_ret (results_path _ rfl _ _ k _ rfl hq.out.2.1) rfl ?_
      refine ⟨_, _, rfl, hq.out.1, ?_⟩
      rw [HM.out]
      exact HA.out
    · have hno : ∀ r, s ≠ 47 :: r := fun r e => h47 ⟨r, e⟩
      have HM := hd (show parse5 s = none by
        unfold parse5
        rw [if_neg h1]
        cases s with
        | nil => rfl
        | cons c r =>
          have : c ≠ 47 := fun e => hno r (by rw [e])
          simp [this])
      have HC := hd (fun W => lib_cut_no s W hno)
      clear h1 h47 hno
      go_wp2_with fail
      refine (HC.out _).mono ?_
      rintro e w1 ⟨rfl, rfl⟩
      go_wp2_with fail
      refine (HW.out _ (HD.out.later HU0.out)).mono ?_
      rintro e w3 ⟨ev, rfl, hu3, hev⟩
      have hb3 := HB0.out.upd hu3 (by simp)
      have hbz := hb3.frozen
      have hbc := hb3.cell
      have hq := hd (HKEY.out w3 _ (.string ⟨#[]⟩) hu3 rfl)
      have HA := hd (hq.out.2.2 (.agg #[.string (txt [])]) ev none ⟨rfl, hev⟩)
      clear hb3 hu3 hev
      go_wp2_with fail
      refine bodyPost_ret (results_path _ rfl _ _ k _ rfl hq.out.2.1) rfl ?_
      refine ⟨_, _, rfl, hq.out.1, ?_⟩
      rw [HM.out]
      exact HA.out

/-- A path's text. -/
theorem ptext_any (s : List UInt8) (w : World) : Calls Tryd.prog 16 #[.agg #[.string (txt s)]] w fun e w' => e = .returned (.string (txt (if s = [] then [47] else s))) ∧ Upd [] w w' := by
  have hb := (Blk.new w #[.string (txt s)] 24).cell
  have HU := hd ((Upd.refl [] w).alloc (.cells #[.string (txt s)] 24))
  by_cases hs : s = []
  · subst hs
    rw [if_pos rfl]
    have he : (txt []).toList.isEmpty = true := by rw [txt_list]; rfl
    go_enter Tryd.func16, Tryd.ntmps16
    go_wp2_with fail
    go_ret
    exact ⟨rfl, HU.out⟩
  · rw [if_neg hs]
    have he : (txt s).toList.isEmpty = false := by rw [txt_list]; simpa using hs
    go_enter Tryd.func16, Tryd.ntmps16
    go_wp2_with fail
    go_ret
    exact ⟨rfl, HU.out⟩
theorem pdepth_any (s : List UInt8) (w : World) : Calls Tryd.prog 18 #[.agg #[.string (txt s)]] w fun e w' => e = .returned (.int .i64 ((s.count 47 : Nat) : Int)) ∧ Upd [] w w' := by
  have hb := (Blk.new w #[.string (txt s)] 24).cell
  have HU := hd ((Upd.refl [] w).alloc (.cells #[.string (txt s)] 24))
  have HC := hd (lib_count s)
  go_enter Tryd.func18, Tryd.ntmps18
  go_wp2_with fail
  refine (HC.out _).mono ?_
  rintro e w1 ⟨rfl, rfl⟩
  go_wp2_with fail
  go_ret
  exact ⟨rfl, HU.out⟩
/-- The parts of a path's text. -/
def parts5 (s : List UInt8) : List (List UInt8) := if s = [] then [] else splitL (s.drop 1)
set_option maxHeartbeats 4000000 in
theorem pparts_any (s : List UInt8) (w : World) (hD : Door w) (hs : s.length ≤ 1000000) : Calls Tryd.prog 17 #[.agg #[.string (txt s)]] w fun e w' => ∃ v, e = .returned v ∧ Upd [] w w' ∧ TxsAt w' v (parts5 s) := by
  have hb := (Blk.new w #[.string (txt s)] 24).cell
  have HU := hd ((Upd.refl [] w).alloc (.cells #[.string (txt s)] 24))
  have HD := hd (hD.later HU.out)
  by_cases hs0 : s = []
  · subst hs0
    have he : (txt []).toList.isEmpty = true := by rw [txt_list]; rfl
    have HP := hd (show parts5 [] = [] from rfl)
    go_enter Tryd.func17, Tryd.ntmps17
    go_wp2_with fail
    go_ret
    refine ⟨_, rfl, HU.out, ?_⟩
    rw [HP.out]
    exact ⟨none, 0, rfl, by simp, by omega, fun h => absurd h (by simp)⟩
  · have HP := hd (show parts5 s = splitL (s.drop 1) from if_neg hs0)
    have he : (txt s).toList.isEmpty = false := by rw [txt_list]; simpa using hs0
    have h1 : (1 : Int) ≤ (s.length : Int) := by have := List.length_pos_iff.2 hs0; omega
    have hx : (txt s).extract 1 s.length = txt (s.drop 1) := txt_tail s 1
    have hln : (splitL (s.drop 1)).length ≤ 9223372036854775807 := by
      rw [splitL_length]
      have := List.count_le_length (a := (47 : UInt8)) (l := s.drop 1)
      rw [List.length_drop] at this
      omega
    have HS := hd (fun W (h : Door W) => lib_split (s.drop 1) W h (by rw [List.length_drop]; omega))
    have HLN := hd hln
    clear hs0 hln
    generalize s.drop 1 = r at *
    go_enter Tryd.func17, Tryd.ntmps17
    go_wp2_with fail
    refine (HS.out _ HD.out).mono ?_
    rintro e w1 ⟨rfl, hu1, hb1⟩
    have hb2 : Blk w1 (w.heap.size + 1) (strVals (splitL r)).toArray 9 := by
      have h := hb1
      rwa [show (w.alloc (.cells #[.string (txt s)] 24)).heap.size = w.heap.size + 1 by simp] at h
    go_wp2_with fail
    go_ret
    refine ⟨_, rfl, HU.out.trans hu1, ?_⟩
    rw [HP.out]
    exact blk_strs hb2 rfl HLN.out
end Go.Proofs.YtfhmdeamhmjddaaDoor
