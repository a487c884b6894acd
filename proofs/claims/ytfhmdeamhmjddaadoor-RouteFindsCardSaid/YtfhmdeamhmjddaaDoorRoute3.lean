/-
  route.Table.Prefix, the law's own few and awake. Conditions: texts of sizes that there are; the library's variables hold what they are laid to hold.
-/
import Derived.Test.YtfhmdeamhmjddaaDoorRoute2
set_option linter.unusedVariables false
set_option linter.unusedSimpArgs false
set_option maxRecDepth 100000
namespace Go.Proofs.YtfhmdeamhmjddaaDoor
open Go.RowKit

theorem results_pre (fn : Func) (hr : fn.results = #[.cell 4 24]) (tmps : Array Value) (W : World) (k : Nat) (x : Value) (ht : tmps[4]? = some (.pointer (some ⟨k, 0, none⟩))) (h : Blk W k #[x] 24) :
    (results fn tmps).run Tryd.prog W = .ok (.agg #[x]) W := by
  have c0 := h.cell 0
  simp at c0
  have hl : (loadVar 24 ⟨k, 0, none⟩).run Tryd.prog W = .ok (.agg #[x]) W := by
    go_simp
  simp [results, hr, ht, asAddr, hl]
set_option maxHeartbeats 4000000 in
theorem prefix_any (B k : Nat) (l : List (List UInt8)) (w : World) (h : TabAt B w k l) (i : Nat) (hi : i < l.length) :
    Calls Tryd.prog 24 #[.pointer (some ⟨k, 0, none⟩), .int .i64 i] w fun e w' => e = .returned (.agg #[.string (txt l[i])]) ∧ Upd [] w w' := by
  obtain ⟨v, hb, hrow⟩ := h
  have HPA := hd (prow_paths hrow)
  obtain ⟨a, c, e, hcl, -, h3⟩ := HPA.out
  subst e
  obtain ⟨kl, ol, rfl, hkl, hc⟩ := h3 (by omega)
  have e0 : ∃ W j, w.heap.size = j ∧ w.alloc (.cells #[.string ⟨#[]⟩] 24) = W ∧ Upd [] w W ∧ Blk W j #[.string ⟨#[]⟩] 24 ∧ Blk W k #[.slice (some ⟨kl, ol, none⟩) l.length c] 77 ∧ W.cell? ⟨kl, ol + i, none⟩ = some (.string (txt l[i])) :=
    ⟨_, _, rfl, rfl, (Upd.refl _ _).alloc _, Blk.new _ _ _, hb.alloc _, by rw [← hc i hi]; exact World.cell?_of_block (((Upd.refl [] w).alloc _).block kl hkl (by simp))⟩
  have hkw := hb.lt
  have h0 : ¬ (i : Int) < 0 := by omega
  have h1 : ¬ (l.length : Int) ≤ (i : Int) := by omega
  have h2 : (i : Int) < (l.length : Int) := by omega
  clear HPA hcl h3 hkl hc hrow hb
  generalize l[i] = x at *
  generalize l.length = n at *
  go_enter Tryd.func24, Tryd.ntmps24
  go_upto_region 1 with fail
  obtain ⟨W, j, hj, hW, hu, hbj, hbk, hcx⟩ := e0
  rw [hW, hj]
  have hkj : ¬ k = j := by omega
  have hjk : ¬ j = k := by omega
  have HU := hd hu
  have HJ := hd (show w.heap.size ≤ j by omega)
  have HBJ := hd hbj
  have hck := hbk.cell
  have hcj := hbj.cell
  have hzj := hbj.frozen
  clear hW hj hu hbj hbk
  go_wp2_with fail
  have HF := hd (show Blk (W.setCell ⟨j, 0, none⟩ (.string (txt x))) j #[.string (txt x)] 24 from (HBJ.out.set 0 (.string (txt x))))
  refine bodyPost_ret (results_pre _ rfl _ _ j _ rfl HF.out) rfl ?_
  exact ⟨rfl, HU.out.setCell (.inr HJ.out) _⟩
/-- The first six texts, each one's first hundred bytes. -/
def fewL (l : List (List UInt8)) : List (List UInt8) := (l.take 6).map (·.take 100)
theorem fewL_small (l : List (List UInt8)) : ∀ x ∈ fewL l, x.length ≤ 1000000 := by
  intro x hx
  obtain ⟨y, -, rfl⟩ := List.mem_map.1 hx
  rw [List.length_take]
  omega
set_option maxHeartbeats 8000000 in
theorem few_any (l : List (List UInt8)) (v : Value) (w : World) (hv : TxsAt w v l) :
    Calls Tryd.prog 21 #[v] w fun e w' => ∃ u, e = .returned u ∧ Upd [] w w' ∧ StrRow w.heap.size w' u (fewL l) := by
  have HV := hd hv
  obtain ⟨a, c, rfl, hc1, hc2, -⟩ := hv
  have HN0 := hd (show StrRow w.heap.size w (.slice none 0 0) [] from World.ownsRow_nil _ _ _ _)
  go_enter Tryd.func21, Tryd.ntmps21
  go_wp2_with fail
  go_loopw [4, 3] (fun s4 s3 wr => ∃ t : Nat, s4 = .int .i64 t ∧ t ≤ 6 ∧ t ≤ l.length ∧ Upd [] w wr ∧ StrRow w.heap.size wr s3 ((l.take t).map (·.take 100))) (fun s4 _ _ => 6 - (intOf s4).toNat)
  case atStart => exact ⟨0, rfl, by omega, by omega, Upd.refl _ _, HN0.out⟩
  case round =>
    obtain ⟨t, rfl, ht6, htl, hu, hrow⟩ := hrel
    have HU := hd hu
    have HLT := hd (show ((l.take t).map (·.take 100)).length ≤ 6 by rw [List.length_map, List.length_take]; omega)
    have HSN := hd (fun (h : t < l.length) => show (l.take (t + 1)).map (·.take 100) = (l.take t).map (·.take 100) ++ [l[t].take 100] by rw [List.take_succ_eq_append_getElem h, List.map_append]; rfl)
    have HEN := hd (fun (h : t = 6 ∨ t = l.length) => show (l.take t).map (·.take 100) = fewL l by
      unfold fewL
      rcases h with rfl | rfl
      · rfl
      · rw [List.take_length, List.take_of_length_le (by omega)])
    generalize (l.take t).map (·.take 100) = O at *
    have HROW := hd hrow
    obtain ⟨a3, c3, rfl, -⟩ := own_open hrow
    have HSZ := hd (HU.out.size)
    clear hu hrow
    by_cases htn : t < l.length
    · have htn' : (t : Int) < (l.length : Int) := by omega
      by_cases h6 : t < 6
      · have h6' : (t : Int) < 6 := by omega
        obtain ⟨a', c', e, q1, q2, q3⟩ := HV.out
        simp only [Value.slice.injEq] at e
        obtain ⟨rfl, -, rfl⟩ := e
        obtain ⟨kl, ol, rfl, hkl, hcl⟩ := q3 (by omega)
        have hc0 : wr.cell? ⟨kl, ol + t, none⟩ = some (.string (txt l[t])) := by rw [← hcl t htn]; exact World.cell?_of_block (HU.out.block kl hkl (by simp))
        have HS := hd (HSN.out htn)
        clear hcl q3 HSN HEN
        generalize l[t] = x at *
        by_cases hx : 100 < x.length
        · have hx' : (100 : Int) < (x.length : Int) := by omega
          have hxe : (txt x).extract 0 100 = txt (x.take 100) := txt_head x 100 (by omega)
          have hx0 : 100 ≤ x.length := by omega
          go_wp2_with (at_builtin; refine strAppend rfl (.tmp 25) (.tmp 27) rfl w.heap.size _ O (x.take 100) rfl (own_upd (L := []) HROW.out ((Upd.refl _ _).alloc _) (by simp)) wr.heap.size rfl (Blk.new _ _ _) ?d1 ?d2 ?_)
          case d1 => have := HLT.out; omega
          case d2 => have := HSZ.out; simp; omega
          intro v6 w6 hown6 hgr6 hblk6
          have hx5 : Upd (Value.slice a3 O.length c3).ownBlock.toList wr w6 := ((Upd.refl _ wr).alloc _).trans hgr6
          have HU6 := hd (HU.out.trans' hx5 (fun i hi => .inr (own_ge HROW.out i (by simpa using hi)).1))
          have HO6 := hd hown6
          obtain ⟨a6, c6, rfl, -⟩ := own_open hown6
          clear hown6 hgr6 hblk6 hx5
          go_wp2_with fail
          go_roundw
          case rel => exact ⟨t + 1, by go_num, by omega, by omega, HU6.out, by rw [HS.out]; simpa using HO6.out⟩
          case measure => simp [intOf]; omega
        · have hx' : ¬ (100 : Int) < (x.length : Int) := by omega
          have HXE := hd (show x.take 100 = x from List.take_of_length_le (by omega))
          go_wp2_with (at_builtin; refine strAppend rfl (.tmp 25) (.tmp 27) rfl w.heap.size _ O x rfl (own_upd (L := []) HROW.out ((Upd.refl _ _).alloc _) (by simp)) wr.heap.size rfl (Blk.new _ _ _) ?d1 ?d2 ?_)
          case d1 => have := HLT.out; omega
          case d2 => have := HSZ.out; simp; omega
          intro v6 w6 hown6 hgr6 hblk6
          have hx5 : Upd (Value.slice a3 O.length c3).ownBlock.toList wr w6 := ((Upd.refl _ wr).alloc _).trans hgr6
          have HU6 := hd (HU.out.trans' hx5 (fun i hi => .inr (own_ge HROW.out i (by simpa using hi)).1))
          have HO6 := hd hown6
          obtain ⟨a6, c6, rfl, -⟩ := own_open hown6
          clear hown6 hgr6 hblk6 hx5
          go_wp2_with fail
          go_roundw
          case rel => exact ⟨t + 1, by go_num, by omega, by omega, HU6.out, by rw [HS.out, HXE.out]; simpa using HO6.out⟩
          case measure => simp [intOf]; omega
      · have h6' : ¬ (t : Int) < 6 := by omega
        have HE := hd (HEN.out (by omega))
        go_wp2_with fail
        go_ret
        refine ⟨_, rfl, HU.out, ?_⟩
        rw [← HE.out]
        exact HROW.out
    · have htn' : ¬ (t : Int) < (l.length : Int) := by omega
      have HE := hd (HEN.out (by omega))
      go_wp2_with fail
      go_ret
      refine ⟨_, rfl, HU.out, ?_⟩
      rw [← HE.out]
      exact HROW.out
end Go.Proofs.YtfhmdeamhmjddaaDoor
