/-
  slices.Insert of one entry, walked: at the end; in the middle, in place; in the middle, into a new row. Conditions: those that each theorem states.
-/
import Derived.Test.YtfhmdeamhmjddaaBm3
import Derived.Deep.RegionLaw
set_option linter.unusedVariables false
set_option linter.unusedSimpArgs false
set_option maxRecDepth 100000
namespace Go.Proofs.Ytfhmdeamhmjddaa
open Go.RowKit Go.Lib

set_option maxHeartbeats 4000000 in
theorem ins_room (g k n cap i : Nat) (cs vs : List Value) (w : World) (hi : i < n) (hroom : n + 1 ≤ cap) (hcap : cap ≤ 9223372036854775807) (hkg : k ≠ g)
    (hcl : cs.length = n * 4) (hvl : vs.length = 4) (hcs : ∀ j v, cs[j]? = some v → w.cell? ⟨g, j, none⟩ = some v)
    (hsp : ∀ j, j < cap * 4 → (w.cell? ⟨g, j, none⟩).isSome = true) (hfz : ∀ j, w.frozen? ⟨g, j, none⟩ = false)
    (hvs : ∀ j v, vs[j]? = some v → w.cell? ⟨k, j, none⟩ = some v) (h1c : ∀ v ∈ cs, v.oneCell' = true) (h1v : ∀ v ∈ vs, v.oneCell' = true)
    (kA kB : Nat) (hsa : w.shape? k = some (85, kA)) (hsb : w.shape? g = some (85, kB)) (hkB : kB ≠ 0) (hfk : ∀ j, w.frozen? ⟨k, j, none⟩ = false) :
    Calls Try.prog 43 #[.slice (some ⟨g, 0, none⟩) n cap, .int .i64 i, .slice (some ⟨k, 0, none⟩) 1 1] w fun e w' =>
      e = .returned (.slice (some ⟨g, 0, none⟩) (n + 1) cap) ∧ w' = (w.drew.setCells g ((i + 1) * 4) (cs.drop (i * 4))).setCells g (i * 4) vs := by
  have hsz : (Try.prog.info? 85).map (·.size) = some 4 := by kernel_rfl
  have hsz' : ∀ w, (Go.sizeOf 85).run Try.prog w = .ok 4 w := by
    intro w
    obtain ⟨i0, hinf, hz0, hz1, hz2⟩ := info_parts Try.infoEnt
    simp [sizeOf, typeInfo, hinf, hz1]
  have hov : ∀ lb cb, (callFunc 68 #[.slice (some ⟨k, 0, none⟩) 1 1, .slice (some ⟨g, (i + 1) * 4, none⟩) lb cb]).run Try.prog w = .ok (.value (.bool false)) w := fun lb cb => by
    rw [run_callFunc_extern Try.func68 (by kernel_rfl) (by kernel_rfl) (by kernel_rfl) (e := Extern.SlicesOverlaps.overlaps #[39, 39] #[4]) (by kernel_rfl),
      Lib.run_overlaps_apart w 39 4 85 Try.underlying39 4 hsz' ⟨k, 0, none⟩ ⟨g, (i + 1) * 4, none⟩ 1 1 lb cb hkg 85 85 kA kB hsa hsb hkB (hfk 0) (hfk kA)]
    rfl
  have hdl : (cs.drop (i * 4)).length = (n - i) * 4 := by rw [List.length_drop, hcl]; omega
  have hcp1 : ∀ ty dc sc, (Builtin.copy_ #[39, 39] ty #[.slice (some ⟨g, (i + 1) * 4, none⟩) (n - i) dc, .slice (some ⟨g, i * 4, none⟩) (n + 1 - i) sc]).run Try.prog w.drew = .ok (goInt (Nat.min (n + 1 - i) (n - i))) (w.drew.setCells g ((i + 1) * 4) (cs.drop (i * 4))) := fun ty dc sc =>
    run_copy_many w.drew _ _ ty 85 4 g ((i + 1) * 4) (n - i) dc ⟨g, i * 4, none⟩ (n + 1 - i) sc (cs.drop (i * 4)) Try.underlying39 hsz (by rw [hdl]; simp only [Nat.min_def]; split <;> omega)
      (fun j v hj => by rw [Addr.add_lit]; exact hcs (i * 4 + j) v (by rwa [List.getElem?_drop] at hj))
      (fun j hj => hsp _ (by omega)) (fun j hj => hfz _) (fun v hv => h1c v (List.mem_of_mem_drop hv))
  obtain ⟨W1, hW1⟩ : ∃ W1, W1 = w.drew.setCells g ((i + 1) * 4) (cs.drop (i * 4)) := ⟨_, rfl⟩
  have hsp1 : ∀ q, q < cap * 4 → (W1.cell? ⟨g, q, none⟩).isSome = true := fun q hq => by
    rw [hW1]
    exact isSome_setCells' g (cs.drop (i * 4)) ((i + 1) * 4) w.drew (fun j hj => hsp _ (by rw [hdl] at hj; omega)) _ (hsp q hq)
  have hcp2 : ∀ (W : World), (∀ x, W.cell? x = W1.cell? x) → (∀ x, W.frozen? x = W1.frozen? x) → ∀ ty dc, (Builtin.copy_ #[39, 39] ty #[.slice (some ⟨g, i * 4, none⟩) (n + 1 - i) dc, .slice (some ⟨k, 0, none⟩) 1 1]).run Try.prog W = .ok (goInt (Nat.min 1 (n + 1 - i))) (W.setCells g (i * 4) vs) := fun W hWc hWf ty dc =>
    run_copy_many W _ _ ty 85 4 g (i * 4) (n + 1 - i) dc ⟨k, 0, none⟩ 1 1 vs Try.underlying39 hsz (by rw [hvl]; simp only [Nat.min_def]; split <;> omega)
      (fun j v hj => by
        rw [Addr.add_lit, hWc, hW1, World.cell?_setCells_out g _ _ _ _ (fun h _ => absurd h hkg), Nat.zero_add]
        exact hvs j v hj)
      (fun j hj => by rw [hWc]; exact hsp1 _ (by omega)) (fun j hj => by rw [hWf, hW1, World.frozen?_setCells]; exact hfz _) h1v
  rw [← hW1] at hcp1
  have HE := hd hW1
  have hw1 : IntKind.i64.wrap ((i : Int) + 1) = (i : Int) + 1 := by rw [IntKind.wrap_i64]; omega
  have hw2 : IntKind.i64.wrap ((n : Int) + 1) = (n : Int) + 1 := by rw [IntKind.wrap_i64]; omega
  have hb1 : (0 : Int) ≤ (i : Int) + 1 := by omega
  have hin : i ≤ n := by omega
  have htn : ((i : Int) + 1).toNat = i + 1 := by omega
  have htn2 : ((n : Int) + 1).toNat = n + 1 := by omega
  have hb2 : ¬ (cap = i + 1) := by omega
  have hb3 : (i : Int) ≤ (n : Int) + 1 := by omega
  have hb4 : ¬ (cap = i) := by omega
  have hb5 : ¬ ((i : Int) = (n : Int)) := by omega
  clear hW1 hcs hsp hvs hsp1
  go_enter Try.func43, Try.ntmps43
  go_wp2_with (simp only [hov])
  go_region_law (refine step_copy_run rfl _ _ 39 39 rfl _ _ (by simp [Act.eval, Act.put]) (by simp [Act.eval, Act.put]) (hcp1 _ _ _) ?_)
  go_wp2_with (at_builtin; refine wpList_copy_run _ rfl _ _ 39 39 rfl _ _ rfl rfl (hcp2 _ (fun _ => rfl) (fun _ => rfl) _ _) ?_)
  go_ret
  exact ⟨rfl, by rw [HE.out]⟩
end Go.Proofs.Ytfhmdeamhmjddaa

/-
  slices.Insert of one entry, walked: in the middle, into a new row; at the end. Conditions: those that each theorem states.
-/
set_option linter.unusedVariables false
set_option linter.unusedSimpArgs false
set_option maxRecDepth 100000
namespace Go.Proofs.Ytfhmdeamhmjddaa
open Go.RowKit Go.Lib

set_option maxHeartbeats 4000000 in
theorem ins_grow (g k n cap i : Nat) (cs vs : List Value) (w : World) (hi : i < n) (hnc : n ≤ cap) (hroom : cap < n + 1) (hn : n ≤ 1024) (hkg : k ≠ g) (hgl : g < w.heap.size) (hkl : k < w.heap.size)
    (hcl : cs.length = n * 4) (hvl : vs.length = 4) (hcs : ∀ j v, cs[j]? = some v → w.cell? ⟨g, j, none⟩ = some v)
    (hvs : ∀ j v, vs[j]? = some v → w.cell? ⟨k, j, none⟩ = some v) (h1c : ∀ v ∈ cs, v.oneCell' = true) (h1v : ∀ v ∈ vs, v.oneCell' = true) :
    Calls Try.prog 43 #[.slice (some ⟨g, 0, none⟩) n cap, .int .i64 i, .slice (some ⟨k, 0, none⟩) 1 1] w fun e w' =>
      ∃ (G : Nat) (ROW : Array Value), n + 1 ≤ G ∧ G ≤ maxLen ∧ ROW.size = G * 4 ∧ (∀ j, j < i * 4 → ROW[j]? = cs[j]?) ∧
      e = .returned (.slice (some ⟨w.heap.size, 0, none⟩) (n + 1) G) ∧ w' = (((w.alloc (.cells ROW 85)).drew.setCells w.heap.size (i * 4) vs).drew).setCells w.heap.size ((i + 1) * 4) (cs.drop (i * 4)) := by
  obtain ⟨i0, hinf, hz0, hzs, hzb⟩ := info_parts Try.infoEnt
  have hsz : (Try.prog.info? 85).map (·.size) = some 4 := by kernel_rfl
  have hkk : (n : Int) + 1 - (i : Int) = ((n + 1 - i : Nat) : Int) := by omega
  have hik : i + (n + 1 - i) = n + 1 := by omega
  have hold : (Builtin.firstCells i0.size i (.slice (some ⟨g, 0, none⟩) i cap)).run Try.prog w.drew = .ok (cs.take (i * 4)).toArray w.drew := by
    rw [hzs]
    exact run_firstCells_some w.drew 4 i ⟨g, 0, none⟩ i cap (cs.take (i * 4)) (by rw [List.length_take]; omega) (fun j v hj => by
      rw [Addr.add_lit, Nat.zero_add]
      rw [List.getElem?_take] at hj
      split at hj
      · exact hcs j v hj
      · cases hj)
  obtain ⟨z, hz⟩ : ∃ z, z = (Value.agg #[.int .i64 0, .int .u64 0, .int .i64 0, .string ⟨#[]⟩]) := ⟨_, rfl⟩
  have hzc : z.cells.size = 4 := by rw [hz]; rfl
  rw [← hz] at hz0
  have hrz : ∀ ty, (Builtin.append_ #[39, 3] ty #[.slice (some ⟨g, 0, none⟩) i cap, .int .i64 ((n : Int) + 1 - (i : Int))]).run Try.prog w =
      .ok (.slice (some ⟨w.heap.size, 0, none⟩) (n + 1) (grownCap w (n + 1) cap 85)) (w.drew.alloc (.cells ((cs.take (i * 4)).toArray ++ Builtin.zeroCells z.cells (n + 1 - i) ++ Builtin.zeroCells z.cells (grownCap w (n + 1) cap 85 - (n + 1))) 85)) := fun ty => by
    have h := Lib.run_append_grow_zeros w 39 3 ty 85 i0 _ .i64 .i64 Try.underlying39 Try.underlying3 hinf hz0 (some ⟨g, 0, none⟩) i cap (cs.take (i * 4)) hold (n + 1 - i) (by omega) (by omega) (by omega) (by omega) (by rw [hzb]; omega) (by rw [hzb, hik]; exact growslice_fits hroom (by omega))
    rw [hik] at h
    rw [hkk]
    exact h
  obtain ⟨G, hG⟩ : ∃ G, G = grownCap w (n + 1) cap 85 := ⟨_, rfl⟩
  obtain ⟨ROW, hROW⟩ : ∃ ROW : Array Value, ROW = (cs.take (i * 4)).toArray ++ Builtin.zeroCells z.cells (n + 1 - i) ++ Builtin.zeroCells z.cells (G - (n + 1)) := ⟨_, rfl⟩
  rw [← hG] at hrz
  rw [← hROW] at hrz
  have hGn : n + 1 ≤ G := by rw [hG]; exact grownCap_ge w _ _ _
  have hGm : G ≤ maxLen := by
    have := grownCap_le_maxLen w (n + 1) cap 85 (by unfold maxLen; omega)
    rwa [← hG] at this
  have hG63 : G ≤ 9223372036854775807 := by unfold maxLen at hGm; omega
  have hRs : ROW.size = G * 4 := by
    rw [hROW]
    simp [Builtin.zeroCells, hzc, hcl]
    omega
  have hRt : ∀ j, j < i * 4 → ROW[j]? = cs[j]? := fun j hj => by
    rw [hROW, Array.append_assoc, Array.getElem?_append_left (by simp; omega)]
    simp [hj]
  have HRS := hd hRs
  have HRT := hd hRt
  have HGM := hd hGm
  clear hRs hRt hGm hROW hG
  obtain ⟨W1, hW1⟩ : ∃ W1, W1 = w.drew.alloc (.cells ROW 85) := ⟨_, rfl⟩
  rw [← hW1] at hrz
  have hN : ∀ j, j < G * 4 → (W1.cell? ⟨w.heap.size, j, none⟩).isSome = true := fun j hj => by
    rw [hW1, World.cell?_alloc_at (w := w.drew) ROW _ w.heap.size j rfl, Array.getElem?_eq_getElem (by rw [HRS.out]; omega)]; rfl
  have hNf : ∀ j, W1.frozen? ⟨w.heap.size, j, none⟩ = false := fun j => by rw [hW1]; exact World.frozen?_alloc_at (w := w.drew) ROW _ w.heap.size j rfl
  have hOb : ∀ j v, w.cell? ⟨g, j, none⟩ = some v → W1.cell? ⟨g, j, none⟩ = some v := fun j v h => by rw [hW1, World.cell?_alloc_past (w := w.drew) _ g j hgl]; exact h
  have hOv : ∀ j v, w.cell? ⟨k, j, none⟩ = some v → W1.cell? ⟨k, j, none⟩ = some v := fun j v h => by rw [hW1, World.cell?_alloc_past (w := w.drew) _ k j hkl]; exact h
  have hcpA : ∀ (W : World), (∀ x, W.cell? x = W1.cell? x) → (∀ x, W.frozen? x = W1.frozen? x) → ∀ ty dc, (Builtin.copy_ #[39, 39] ty #[.slice (some ⟨w.heap.size, i * 4, none⟩) (n + 1 - i) dc, .slice (some ⟨k, 0, none⟩) 1 1]).run Try.prog W = .ok (goInt (Nat.min 1 (n + 1 - i))) (W.setCells w.heap.size (i * 4) vs) := fun W hWc hWf ty dc =>
    run_copy_many W _ _ ty 85 4 w.heap.size (i * 4) (n + 1 - i) dc ⟨k, 0, none⟩ 1 1 vs Try.underlying39 hsz (by rw [hvl]; simp only [Nat.min_def]; split <;> omega)
      (fun j v hj => by rw [Addr.add_lit, hWc, Nat.zero_add]; exact hOv _ v (hvs j v hj))
      (fun j hj => by rw [hWc]; exact hN _ (by omega)) (fun j hj => by rw [hWf]; exact hNf _) h1v
  have hGi : ¬ (G = i) := by omega
  have hGim : ¬ (G = i + 1) := by omega
  have hci : ¬ (cap = i) := by omega
  have hbN : g ≠ w.heap.size := by omega
  have hdl : (cs.drop (i * 4)).length = (n - i) * 4 := by rw [List.length_drop, hcl]; omega
  have hcpB : ∀ (W : World), (∀ x, W.cell? x = (W1.setCells w.heap.size (i * 4) vs).cell? x) → (∀ x, W.frozen? x = (W1.setCells w.heap.size (i * 4) vs).frozen? x) → ∀ ty dc sc, (Builtin.copy_ #[39, 39] ty #[.slice (some ⟨w.heap.size, (i + 1) * 4, none⟩) (n - i) dc, .slice (some ⟨g, i * 4, none⟩) (n - i) sc]).run Try.prog W = .ok (goInt (Nat.min (n - i) (n - i))) (W.setCells w.heap.size ((i + 1) * 4) (cs.drop (i * 4))) := fun W hWc hWf ty dc sc =>
    run_copy_many W _ _ ty 85 4 w.heap.size ((i + 1) * 4) (n - i) dc ⟨g, i * 4, none⟩ (n - i) sc (cs.drop (i * 4)) Try.underlying39 hsz (by rw [hdl]; simp only [Nat.min_def]; split <;> omega)
      (fun j v hj => by
        rw [Addr.add_lit, hWc, World.cell?_setCells_out _ _ _ _ _ (fun h _ => absurd h hbN)]
        exact hOb _ v (hcs (i * 4 + j) v (by rwa [List.getElem?_drop] at hj)))
      (fun j hj => by rw [hWc]; exact isSome_setCells' w.heap.size vs (i * 4) W1 (fun t ht => hN _ (by omega)) _ (hN _ (by rw [hdl] at hj; omega)))
      (fun j hj => by rw [hWf, World.frozen?_setCells]; exact hNf _) (fun v hv => h1c v (List.mem_of_mem_drop hv))
  subst hW1
  have hE1 : ∀ x, ((w.alloc (.cells ROW 85)).drew).cell? x = (w.drew.alloc (.cells ROW 85)).cell? x := fun x => rfl
  have hE2 : ∀ x, ((w.alloc (.cells ROW 85)).drew).frozen? x = (w.drew.alloc (.cells ROW 85)).frozen? x := fun x => rfl
  have hF1 : ∀ x, (((w.alloc (.cells ROW 85)).drew.setCells w.heap.size (i * 4) vs).drew).cell? x = ((w.drew.alloc (.cells ROW 85)).setCells w.heap.size (i * 4) vs).cell? x := fun x => rfl
  have hF2 : ∀ x, (((w.alloc (.cells ROW 85)).drew.setCells w.heap.size (i * 4) vs).drew).frozen? x = ((w.drew.alloc (.cells ROW 85)).setCells w.heap.size (i * 4) vs).frozen? x := fun x => rfl
  have hw1 : IntKind.i64.wrap ((i : Int) + 1) = (i : Int) + 1 := by rw [IntKind.wrap_i64]; omega
  have hw2 : IntKind.i64.wrap ((n : Int) + 1) = (n : Int) + 1 := by rw [IntKind.wrap_i64]; omega
  have hw3 : IntKind.i64.wrap ((n : Int) + 1 - (i : Int)) = (n : Int) + 1 - (i : Int) := by rw [IntKind.wrap_i64]; omega
  have hb1 : (0 : Int) ≤ (i : Int) + 1 := by omega
  have hin : i ≤ n := by omega
  have htn : ((i : Int) + 1).toNat = i + 1 := by omega
  have hb3 : (i : Int) ≤ (n : Int) := by omega
  have hb5 : ¬ ((i : Int) = (n : Int)) := by omega
  have hb6 : (cap : Int) < (n : Int) + 1 := by omega
  clear hkk hik hold hz hzc hz0 hN hNf hOb hOv hcs hvs
  go_enter Try.func43, Try.ntmps43
  go_wp2_with (first
    | (at_builtin; refine Lib.wpList_append_run _ rfl _ _ _ _ rfl _ _ rfl rfl _ _ (hrz _) ?_)
    | (at_builtin; refine wpList_copy_run _ rfl _ _ 39 39 rfl _ _ rfl rfl (hcpA _ hE1 hE2 _ _) ?_))
  go_region_law (refine step_copy_run rfl _ _ 39 39 rfl (.slice (some ⟨w.heap.size, (i + 1) * 4, none⟩) (n - i) (G - (i + 1))) (.slice (some ⟨g, i * 4, none⟩) (n - i) (cap - i)) (by simp [Act.eval, Act.put]) (by simp [Act.eval, Act.put]) (hcpB _ hF1 hF2 3 (G - (i + 1)) (cap - i)) ?_)
  go_wp2
  go_ret
  exact ⟨G, ROW, hGn, HGM.out, HRS.out, HRT.out, rfl, rfl⟩
end Go.Proofs.Ytfhmdeamhmjddaa

/-
  slices.Insert of one entry into an owned row of entries, its one contract. Conditions: those that the theorem states.
-/
set_option linter.unusedVariables false
set_option linter.unusedSimpArgs false
set_option maxRecDepth 100000
namespace Go.Proofs.Ytfhmdeamhmjddaa
open Go.RowKit Go.Lib

theorem ents_ins_len (l : List EntS) (x : EntS) (i : Nat) (hi : i ≤ l.length) : (l.take i ++ x :: l.drop i).length = l.length + 1 := by
  simp only [List.length_append, List.length_take, List.length_cons, List.length_drop]; omega

/-- The cells of an entry put in: place by place. -/
theorem ins_cell (l : List EntS) (x : EntS) (i j : Nat) (hi : i ≤ l.length) : (entCells (l.take i ++ x :: l.drop i))[j]? =
    if j < i * 4 then (entCells l)[j]? else if j < (i + 1) * 4 then x.cells[j - i * 4]? else (entCells l)[j - 4]? := by
  have hl := entCells_length l
  have hx : x.cells.length = 4 := rfl
  rw [entCells_ins l x i hi]
  split
  · rename_i h
    rw [List.getElem?_append_left (by rw [List.length_take]; omega), List.getElem?_take, if_pos h]
  · rename_i h
    have hlt : ((entCells l).take (i * 4)).length = i * 4 := by rw [List.length_take]; omega
    rw [List.getElem?_append_right (by omega), hlt]
    split
    · rw [List.getElem?_append_left (by omega)]
    · rw [List.getElem?_append_right (by omega), List.getElem?_drop, hx]
      congr 1
      omega

set_option maxHeartbeats 4000000 in
theorem ins_end (B : Nat) (v : Value) (l : List EntS) (x : EntS) (k : Nat) (w : World) (h : w.ownsRow B 85 4 v l.length (entCells l)) (hk : Blk w k x.cells.toArray 85) (hl : l.length ≤ 1024) (hB : B ≤ w.heap.size) :
    Calls Try.prog 43 #[v, .int .i64 l.length, .slice (some ⟨k, 0, none⟩) 1 1] w fun e w' =>
      ∃ v', e = .returned v' ∧ w'.ownsRow B 85 4 v' (l.length + 1) (entCells l ++ x.cells) ∧ Upd v.ownBlock.toList w w' ∧ (∀ g, v'.ownBlock = some g → v.ownBlock = some g ∨ w.heap.size ≤ g) := by
  obtain ⟨i0, hinf, hz0, hz1, hz2⟩ := info_parts Try.infoEnt
  obtain ⟨a, cap, rfl, hnc, hcm, hac⟩ := own_open2 h
  have hcell : ∀ j u, x.cells[j]? = some u → w.cell? ((⟨k, 0, none⟩ : Addr).add j) = some u := fun j u hj => by
    rw [Addr.add_lit, Nat.zero_add, Blk.cell hk j, ← hj]; simp
  have HX := hd hcell
  have H := hd h
  have h1 : ∀ u ∈ x.cells, u.oneCell' = true := by
    intro u hu
    simp only [EntS.cells, List.mem_cons, List.not_mem_nil, or_false] at hu
    rcases hu with rfl | rfl | rfl | rfl <;> rfl
  have H1 := hd h1
  have hx4 : x.cells.length = 1 * 4 := rfl
  have HX4 := hd hx4
  generalize x.cells = xs at *
  clear hcell h h1 hk hx4
  by_cases hci : cap = l.length
  · subst hci
    go_enter Try.func43, Try.ntmps43
    go_wp2_with (at_builtin; refine wpList_append_own_at _ rfl (.tmp 23) (.tmp 24) 39 rfl B 85 i0 _ 4 40 Try.underlying39 hinf hz0 hz1 hz2 rfl (by decide) _ l.length (entCells l) rfl H.out ⟨k, 0, none⟩ 1 1 xs rfl HX4.out HX.out H1.out (by unfold maxLen; omega) (by omega) hB ?_)
    intro v' w' hown hgr _ hblk
    have HO := hd hown
    have HU := hd (Upd.of_grown hgr)
    have HB := hd (show ∀ g, v'.ownBlock = some g → (Value.slice a l.length l.length).ownBlock = some g ∨ w.heap.size ≤ g from fun g hg => by
      rcases hblk with e | e
      · exact .inl (e ▸ hg)
      · rw [e] at hg; cases hg; exact .inr (Nat.le_refl _))
    clear hown hgr hblk
    go_wp2_with fail
    go_ret
    exact ⟨v', rfl, HO.out, HU.out, HB.out⟩
  · rcases hac with ⟨rfl, rfl⟩ | ⟨g, rfl⟩
    · omega
    · go_enter Try.func43, Try.ntmps43
      go_wp2_with (at_builtin; refine wpList_append_own_at _ rfl (.tmp 23) (.tmp 24) 39 rfl B 85 i0 _ 4 40 Try.underlying39 hinf hz0 hz1 hz2 rfl (by decide) _ l.length (entCells l) rfl H.out ⟨k, 0, none⟩ 1 1 xs rfl HX4.out HX.out H1.out (by unfold maxLen; omega) (by omega) hB ?_)
      intro v' w' hown hgr _ hblk
      have HO := hd hown
      have HU := hd (Upd.of_grown hgr)
      have HB := hd (show ∀ q, v'.ownBlock = some q → (Value.slice (some ⟨g, 0, none⟩) l.length cap).ownBlock = some q ∨ w.heap.size ≤ q from fun q hg => by
        rcases hblk with e | e
        · exact .inl (e ▸ hg)
        · rw [e] at hg; cases hg; exact .inr (Nat.le_refl _))
      clear hown hgr hblk
      go_wp2_with fail
      go_ret
      exact ⟨v', rfl, HO.out, HU.out, HB.out⟩

theorem shape_of {w : World} {k T : Nat} {c : Array Value} (h : Blk w k c T) : w.shape? k = some (T, c.size) := by
  simp only [World.shape?]; rw [h]

set_option maxHeartbeats 4000000 in
/-- slices.Insert of one entry x ahead of the i-th. -/
theorem insert_any (B : Nat) (v : Value) (l : List EntS) (x : EntS) (i k : Nat) (w : World) (h : w.ownsRow B 85 4 v l.length (entCells l)) (hk : Blk w k x.cells.toArray 85) (hkv : ∀ g, v.ownBlock = some g → k ≠ g)
    (hi : i ≤ l.length) (hl : l.length ≤ 1024) (hB : B ≤ w.heap.size) :
    Calls Try.prog 43 #[v, .int .i64 i, .slice (some ⟨k, 0, none⟩) 1 1] w fun e w' =>
      ∃ v', e = .returned v' ∧ w'.ownsRow B 85 4 v' (l.length + 1) (entCells (l.take i ++ x :: l.drop i)) ∧ Upd v.ownBlock.toList w w' ∧ (∀ g, v'.ownBlock = some g → v.ownBlock = some g ∨ w.heap.size ≤ g) := by
  rcases Nat.lt_or_ge i l.length with hin | hin
  · have hh := h
    obtain ⟨hll, h⟩ := h
    rcases h with ⟨rfl, hn⟩ | ⟨g, cap, cur, rfl, hb, hg, hnc, hcm, hcs, ht⟩
    · omega
    · have hkg : k ≠ g := hkv g rfl
      have hlen := entCells_length l
      have hlg : g < w.heap.size := Blk.lt hg
      have hlk : k < w.heap.size := hk.lt
      have hcell : ∀ j, j < l.length * 4 → cur[j]? = (entCells l)[j]? := fun j hj => by
        rw [← ht, List.getElem?_take, if_pos hj]; simp
      have hcs0 : ∀ j u, (entCells l)[j]? = some u → w.cell? ⟨g, j, none⟩ = some u := fun j u hj => by
        have hjl : j < (entCells l).length := (List.getElem?_eq_some_iff.1 hj).1
        rw [Blk.cell hg j, hcell j (by omega), hj]
      have hvs0 : ∀ j u, x.cells[j]? = some u → w.cell? ⟨k, j, none⟩ = some u := fun j u hj => by rw [Blk.cell hk j, ← hj]; simp
      have h1v : ∀ u ∈ x.cells, u.oneCell' = true := by
        intro u hu
        simp only [EntS.cells, List.mem_cons, List.not_mem_nil, or_false] at hu
        rcases hu with rfl | rfl | rfl | rfl <;> rfl
      have hins := fun j => ins_cell l x i j hi
      have hlins : (entCells (l.take i ++ x :: l.drop i)).length = (l.length + 1) * 4 := by rw [entCells_length, ents_ins_len l x i hi]
      have hx4 : x.cells.length = 4 := rfl
      have hdl : ((entCells l).drop (i * 4)).length = (l.length - i) * 4 := by rw [List.length_drop, hlen]; omega
      have hcm63 : cap ≤ 9223372036854775807 := by unfold maxLen at hcm; omega
      rcases Nat.lt_or_ge cap (l.length + 1) with hr | hr
      · refine (ins_grow g k l.length cap i (entCells l) x.cells w hin hnc hr hl hkg hlg hlk hlen rfl hcs0 hvs0 (one_cells l) h1v).mono ?_
        rintro e w' ⟨G, ROW, hG1, hG2, hG3, hG4, rfl, rfl⟩
        obtain ⟨W0, hW0⟩ : ∃ W0, W0 = (w.alloc (.cells ROW 85)).drew := ⟨_, rfl⟩
        have hb0 : Blk W0 w.heap.size ROW 85 := by rw [hW0]; exact Blk.newd w ROW _ rfl
        have hu0 : Upd [] w W0 := by rw [hW0]; exact ((Upd.refl _ _).alloc _).drew
        obtain ⟨c1, hb1, hs1⟩ := setCells_blk (T := 85) x.cells (i * 4) W0 ROW hb0
        have hb1' : Blk (W0.setCells w.heap.size (i * 4) x.cells).drew w.heap.size c1 85 := hb1
        obtain ⟨c2, hb2, hs2⟩ := setCells_blk (T := 85) ((entCells l).drop (i * 4)) ((i + 1) * 4) _ c1 hb1'
        rw [← hW0]
        refine ⟨_, rfl, ?_, ?_, fun q hq => ?_⟩
        · refine own_of_cells hb2 hB hG1 hG2 (by omega) hlins (fun j hj => ?_)
          rw [hins j]
          have e0 : ∀ q, W0.cell? ⟨w.heap.size, q, none⟩ = ROW[q]? := fun q => Blk.cell hb0 q
          have e1 : ∀ q, (W0.setCells w.heap.size (i * 4) x.cells).drew.cell? ⟨w.heap.size, q, none⟩ = (W0.setCells w.heap.size (i * 4) x.cells).cell? ⟨w.heap.size, q, none⟩ := fun q => rfl
          split
          · rename_i hj1
            rw [World.cell?_setCells_out _ _ _ _ _ (fun _ _ => .inl (by simp; omega)), e1, World.cell?_setCells_out _ _ _ _ _ (fun _ _ => .inl (by simpa using hj1)), e0, hG4 j hj1]
          · rename_i hj1
            split
            · rename_i hj2
              rw [World.cell?_setCells_out _ _ _ _ _ (fun _ _ => .inl (by simpa using hj2)), e1]
              have := World.cell?_setCells_in w.heap.size x.cells (i * 4) W0 (fun t ht => by rw [e0, Array.getElem?_eq_getElem (by omega)]; rfl) (j - i * 4) (by omega)
              rw [show i * 4 + (j - i * 4) = j by omega] at this
              rw [this, List.getElem?_eq_getElem (by omega)]
            · rename_i hj2
              have := World.cell?_setCells_in w.heap.size ((entCells l).drop (i * 4)) ((i + 1) * 4) (W0.setCells w.heap.size (i * 4) x.cells).drew (fun t ht => by rw [Blk.cell hb1' _, Array.getElem?_eq_getElem (by omega)]; rfl) (j - (i + 1) * 4) (by omega)
              rw [show (i + 1) * 4 + (j - (i + 1) * 4) = j by omega] at this
              rw [this, List.getElem_drop, List.getElem?_eq_getElem (by omega)]
              congr 2
              omega
        · refine hu0.trans' (M := [w.heap.size]) ((setCells_upd _ _ _).drew.trans (setCells_upd _ _ _)) (by simp) |>.mono (by simp)
        · simp only [Value.ownBlock, Option.some.injEq] at hq
          exact .inr (by omega)
      · refine (ins_room g k l.length cap i (entCells l) x.cells w hin hr hcm63 hkg hlen rfl hcs0 (fun j hj => by rw [Blk.cell hg j, Array.getElem?_eq_getElem (by omega)]; rfl) (fun j => Blk.frozen hg j) hvs0 (one_cells l) h1v 4 cur.size (shape_of hk) (shape_of hg) (by omega) (fun j => Blk.frozen hk j)).mono ?_
        rintro e w' ⟨rfl, rfl⟩
        have hb0 : Blk w.drew g cur 85 := hg
        obtain ⟨c1, hb1, hs1⟩ := setCells_blk (T := 85) ((entCells l).drop (i * 4)) ((i + 1) * 4) w.drew cur hb0
        obtain ⟨c2, hb2, hs2⟩ := setCells_blk (T := 85) x.cells (i * 4) _ c1 hb1
        refine ⟨_, rfl, ?_, ?_, fun q hq => .inl hq⟩
        · refine own_of_cells hb2 hb hr hcm (by omega) hlins (fun j hj => ?_)
          rw [hins j]
          have e0 : ∀ q, w.drew.cell? ⟨g, q, none⟩ = cur[q]? := fun q => Blk.cell hb0 q
          split
          · rename_i hj1
            rw [World.cell?_setCells_out _ _ _ _ _ (fun _ _ => .inl (by simpa using hj1)), World.cell?_setCells_out _ _ _ _ _ (fun _ _ => .inl (by simp; omega)), e0, hcell j (by omega)]
          · rename_i hj1
            split
            · rename_i hj2
              have := World.cell?_setCells_in g x.cells (i * 4) (w.drew.setCells g ((i + 1) * 4) ((entCells l).drop (i * 4))) (fun t ht => by rw [Blk.cell hb1 _, Array.getElem?_eq_getElem (by omega)]; rfl) (j - i * 4) (by omega)
              rw [show i * 4 + (j - i * 4) = j by omega] at this
              rw [this, List.getElem?_eq_getElem (by omega)]
            · rename_i hj2
              rw [World.cell?_setCells_out _ _ _ _ _ (fun _ _ => .inr (by simp; omega))]
              have := World.cell?_setCells_in g ((entCells l).drop (i * 4)) ((i + 1) * 4) w.drew (fun t ht => by rw [e0, Array.getElem?_eq_getElem (by omega)]; rfl) (j - (i + 1) * 4) (by omega)
              rw [show (i + 1) * 4 + (j - (i + 1) * 4) = j by omega] at this
              rw [this, List.getElem_drop, List.getElem?_eq_getElem (by omega)]
              congr 2
              omega
        · exact ((Upd.refl [g] w).drew.trans (setCells_upd _ _ _)).trans (setCells_upd _ _ _) |>.mono (by simp [Value.ownBlock])
  · obtain rfl : i = l.length := by omega
    have := ins_end B v l x k w h hk hl hB
    rw [List.take_length, List.drop_length]
    have e : entCells (l ++ [x]) = entCells l ++ x.cells := by simp [entCells]
    rw [e]
    exact this
end Go.Proofs.Ytfhmdeamhmjddaa
