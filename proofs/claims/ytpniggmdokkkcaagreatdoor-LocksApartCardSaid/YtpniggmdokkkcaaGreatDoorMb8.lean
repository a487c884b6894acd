/-
  slices.Insert of one entry, walked: in the middle, into a new row; at the end. Conditions: those that each theorem states.
-/
import Derived.Test.YtpniggmdokkkcaaGreatDoorMb7
set_option linter.unusedVariables false
set_option linter.unusedSimpArgs false
set_option maxRecDepth 100000
namespace Go.Proofs.YtpniggmdokkkcaaGreatDoor
open Go.RowKit Go.Lib

set_option maxHeartbeats 4000000 in
theorem ins_grow (g k n cap i : Nat) (cs vs : List Value) (w : World) (hi : i < n) (hnc : n ≤ cap) (hroom : cap < n + 1) (hn : n ≤ 1024) (hkg : k ≠ g) (hgl : g < w.heap.size) (hkl : k < w.heap.size)
    (hcl : cs.length = n * 4) (hvl : vs.length = 4) (hcs : ∀ j v, cs[j]? = some v → w.cell? ⟨g, j, none⟩ = some v)
    (hvs : ∀ j v, vs[j]? = some v → w.cell? ⟨k, j, none⟩ = some v) (h1c : ∀ v ∈ cs, v.oneCell' = true) (h1v : ∀ v ∈ vs, v.oneCell' = true) :
    Calls Tryz.prog 63 #[.slice (some ⟨g, 0, none⟩) n cap, .int .i64 i, .slice (some ⟨k, 0, none⟩) 1 1] w fun e w' =>
      ∃ (G : Nat) (ROW : Array Value), n + 1 ≤ G ∧ G ≤ maxLen ∧ ROW.size = G * 4 ∧ (∀ j, j < i * 4 → ROW[j]? = cs[j]?) ∧
      e = .returned (.slice (some ⟨w.heap.size, 0, none⟩) (n + 1) G) ∧ w' = (((w.alloc (.cells ROW 42)).drew.setCells w.heap.size (i * 4) vs).drew).setCells w.heap.size ((i + 1) * 4) (cs.drop (i * 4)) := by
  obtain ⟨i0, hinf, hz0, hzs, hzb⟩ := info_parts Tryz.infoLk
  have hsz : (Tryz.prog.info? 42).map (·.size) = some 4 := by kernel_rfl
  have hkk : (n : Int) + 1 - (i : Int) = ((n + 1 - i : Nat) : Int) := by omega
  have hik : i + (n + 1 - i) = n + 1 := by omega
  have hold : (Builtin.firstCells i0.size i (.slice (some ⟨g, 0, none⟩) i cap)).run Tryz.prog w.drew = .ok (cs.take (i * 4)).toArray w.drew := by
    rw [hzs]
    exact run_firstCells_some w.drew 4 i ⟨g, 0, none⟩ i cap (cs.take (i * 4)) (by rw [List.length_take]; omega) (fun j v hj => by
      rw [Addr.add_lit, Nat.zero_add]
      rw [List.getElem?_take] at hj
      split at hj
      · exact hcs j v hj
      · cases hj)
  obtain ⟨z, hz⟩ : ∃ z, z = (Value.agg #[.int .i64 0, .string ⟨#[]⟩, .bool false, .int .u64 0]) := ⟨_, rfl⟩
  have hzc : z.cells.size = 4 := by rw [hz]; rfl
  rw [← hz] at hz0
  have hrz : ∀ ty, (Builtin.append_ #[37, 3] ty #[.slice (some ⟨g, 0, none⟩) i cap, .int .i64 ((n : Int) + 1 - (i : Int))]).run Tryz.prog w =
      .ok (.slice (some ⟨w.heap.size, 0, none⟩) (n + 1) (grownCap w (n + 1) cap 42)) (w.drew.alloc (.cells ((cs.take (i * 4)).toArray ++ Builtin.zeroCells z.cells (n + 1 - i) ++ Builtin.zeroCells z.cells (grownCap w (n + 1) cap 42 - (n + 1))) 42)) := fun ty => by
    have h := Lib.run_append_grow_zeros w 37 3 ty 42 i0 _ .i64 .i64 Tryz.underlying37 Tryz.underlying3 hinf hz0 (some ⟨g, 0, none⟩) i cap (cs.take (i * 4)) hold (n + 1 - i) (by omega) (by omega) (by omega) (by omega) (by rw [hzb]; omega) (by rw [hzb, hik]; exact growslice_fits hroom (by omega))
    rw [hik] at h
    rw [hkk]
    exact h
  obtain ⟨G, hG⟩ : ∃ G, G = grownCap w (n + 1) cap 42 := ⟨_, rfl⟩
  obtain ⟨ROW, hROW⟩ : ∃ ROW : Array Value, ROW = (cs.take (i * 4)).toArray ++ Builtin.zeroCells z.cells (n + 1 - i) ++ Builtin.zeroCells z.cells (G - (n + 1)) := ⟨_, rfl⟩
  rw [← hG] at hrz
  rw [← hROW] at hrz
  have hGn : n + 1 ≤ G := by rw [hG]; exact grownCap_ge w _ _ _
  have hGm : G ≤ maxLen := by
    have := grownCap_le_maxLen w (n + 1) cap 42 (by unfold maxLen; omega)
    rwa [← hG] at this
  have hG63 : G ≤ 9223372036854775807 := by unfold maxLen at hGm; omega
  have hRs : ROW.size = G * 4 := by
    rw [hROW]
    simp [Builtin.zeroCells, hzc, hcl]
    omega
  have hRt : ∀ j, j < i * 4 → ROW[j]? = cs[j]? := fun j hj => by
    rw [hROW, Array.append_assoc, Array.getElem?_append_left (by simp; omega)]
    simp [hj]
  have HRS := hd hRs
  have HRT := hd hRt
  have HGM := hd hGm
  clear hRs hRt hGm hROW hG
  obtain ⟨W1, hW1⟩ : ∃ W1, W1 = w.drew.alloc (.cells ROW 42) := ⟨_, rfl⟩
  rw [← hW1] at hrz
  have hN : ∀ j, j < G * 4 → (W1.cell? ⟨w.heap.size, j, none⟩).isSome = true := fun j hj => by
    rw [hW1, World.cell?_alloc_at (w := w.drew) ROW _ w.heap.size j rfl, Array.getElem?_eq_getElem (by rw [HRS.out]; omega)]; rfl
  have hNf : ∀ j, W1.frozen? ⟨w.heap.size, j, none⟩ = false := fun j => by rw [hW1]; exact World.frozen?_alloc_at (w := w.drew) ROW _ w.heap.size j rfl
  have hOb : ∀ j v, w.cell? ⟨g, j, none⟩ = some v → W1.cell? ⟨g, j, none⟩ = some v := fun j v h => by rw [hW1, World.cell?_alloc_past (w := w.drew) _ g j hgl]; exact h
  have hOv : ∀ j v, w.cell? ⟨k, j, none⟩ = some v → W1.cell? ⟨k, j, none⟩ = some v := fun j v h => by rw [hW1, World.cell?_alloc_past (w := w.drew) _ k j hkl]; exact h
  have hcpA : ∀ (W : World), (∀ x, W.cell? x = W1.cell? x) → (∀ x, W.frozen? x = W1.frozen? x) → ∀ ty dc, (Builtin.copy_ #[37, 37] ty #[.slice (some ⟨w.heap.size, i * 4, none⟩) (n + 1 - i) dc, .slice (some ⟨k, 0, none⟩) 1 1]).run Tryz.prog W = .ok (goInt (Nat.min 1 (n + 1 - i))) (W.setCells w.heap.size (i * 4) vs) := fun W hWc hWf ty dc =>
    run_copy_many W _ _ ty 42 4 w.heap.size (i * 4) (n + 1 - i) dc ⟨k, 0, none⟩ 1 1 vs Tryz.underlying37 hsz (by rw [hvl]; simp only [Nat.min_def]; split <;> omega)
      (fun j v hj => by rw [Addr.add_lit, hWc, Nat.zero_add]; exact hOv _ v (hvs j v hj))
      (fun j hj => by rw [hWc]; exact hN _ (by omega)) (fun j hj => by rw [hWf]; exact hNf _) h1v
  have hGi : ¬ (G = i) := by omega
  have hGim : ¬ (G = i + 1) := by omega
  have hci : ¬ (cap = i) := by omega
  have hbN : g ≠ w.heap.size := by omega
  have hdl : (cs.drop (i * 4)).length = (n - i) * 4 := by rw [List.length_drop, hcl]; omega
  have hcpB : ∀ (W : World), (∀ x, W.cell? x = (W1.setCells w.heap.size (i * 4) vs).cell? x) → (∀ x, W.frozen? x = (W1.setCells w.heap.size (i * 4) vs).frozen? x) → ∀ ty dc sc, (Builtin.copy_ #[37, 37] ty #[.slice (some ⟨w.heap.size, (i + 1) * 4, none⟩) (n - i) dc, .slice (some ⟨g, i * 4, none⟩) (n - i) sc]).run Tryz.prog W = .ok (goInt (Nat.min (n - i) (n - i))) (W.setCells w.heap.size ((i + 1) * 4) (cs.drop (i * 4))) := fun W hWc hWf ty dc sc =>
    run_copy_many W _ _ ty 42 4 w.heap.size ((i + 1) * 4) (n - i) dc ⟨g, i * 4, none⟩ (n - i) sc (cs.drop (i * 4)) Tryz.underlying37 hsz (by rw [hdl]; simp only [Nat.min_def]; split <;> omega)
      (fun j v hj => by
        rw [Addr.add_lit, hWc, World.cell?_setCells_out _ _ _ _ _ (fun h _ => absurd h hbN)]
        exact hOb _ v (hcs (i * 4 + j) v (by rwa [List.getElem?_drop] at hj)))
      (fun j hj => by rw [hWc]; exact isSome_setCells' w.heap.size vs (i * 4) W1 (fun t ht => hN _ (by omega)) _ (hN _ (by rw [hdl] at hj; omega)))
      (fun j hj => by rw [hWf, World.frozen?_setCells]; exact hNf _) (fun v hv => h1c v (List.mem_of_mem_drop hv))
  subst hW1
  have hE1 : ∀ x, ((w.alloc (.cells ROW 42)).drew).cell? x = (w.drew.alloc (.cells ROW 42)).cell? x := fun x => rfl
  have hE2 : ∀ x, ((w.alloc (.cells ROW 42)).drew).frozen? x = (w.drew.alloc (.cells ROW 42)).frozen? x := fun x => rfl
  have hF1 : ∀ x, (((w.alloc (.cells ROW 42)).drew.setCells w.heap.size (i * 4) vs).drew).cell? x = ((w.drew.alloc (.cells ROW 42)).setCells w.heap.size (i * 4) vs).cell? x := fun x => rfl
  have hF2 : ∀ x, (((w.alloc (.cells ROW 42)).drew.setCells w.heap.size (i * 4) vs).drew).frozen? x = ((w.drew.alloc (.cells ROW 42)).setCells w.heap.size (i * 4) vs).frozen? x := fun x => rfl
  have hw1 : IntKind.i64.wrap ((i : Int) + 1) = (i : Int) + 1 := by rw [IntKind.wrap_i64]; omega
  have hw2 : IntKind.i64.wrap ((n : Int) + 1) = (n : Int) + 1 := by rw [IntKind.wrap_i64]; omega
  have hw3 : IntKind.i64.wrap ((n : Int) + 1 - (i : Int)) = (n : Int) + 1 - (i : Int) := by rw [IntKind.wrap_i64]; omega
  have hb1 : (0 : Int) ≤ (i : Int) + 1 := by omega
  have hin : i ≤ n := by omega
  have htn : ((i : Int) + 1).toNat = i + 1 := by omega
  have hb3 : (i : Int) ≤ (n : Int) := by omega
  have hb5 : ¬ ((i : Int) = (n : Int)) := by omega
  have hb6 : (cap : Int) < (n : Int) + 1 := by omega
  clear hkk hik hold hz hzc hz0 hN hNf hOb hOv hcs hvs
  go_enter Tryz.func63, Tryz.ntmps63
  go_wp2_with (first
    | (at_builtin; refine Lib.wpList_append_run _ rfl _ _ _ _ rfl _ _ rfl rfl _ _ (hrz _) ?_)
    | (at_builtin; refine wpList_copy_run _ rfl _ _ 37 37 rfl _ _ rfl rfl (hcpA _ hE1 hE2 _ _) ?_))
  go_region_law (refine step_copy_run rfl _ _ 37 37 rfl (.slice (some ⟨w.heap.size, (i + 1) * 4, none⟩) (n - i) (G - (i + 1))) (.slice (some ⟨g, i * 4, none⟩) (n - i) (cap - i)) (by simp [Act.eval, Act.put]) (by simp [Act.eval, Act.put]) (hcpB _ hF1 hF2 3 (G - (i + 1)) (cap - i)) ?_)
  go_wp2
  go_ret
  exact ⟨G, ROW, hGn, HGM.out, HRS.out, HRT.out, rfl, rfl⟩
end Go.Proofs.YtpniggmdokkkcaaGreatDoor

/-
  slices.Insert of one entry into an owned row of entries, its one contract. Conditions: those that the theorem states.
-/
set_option linter.unusedVariables false
set_option linter.unusedSimpArgs false
set_option maxRecDepth 100000
namespace Go.Proofs.YtpniggmdokkkcaaGreatDoor
open Go.RowKit Go.Lib

theorem lks_ins_len (l : List LkS) (x : LkS) (i : Nat) (hi : i ≤ l.length) : (l.take i ++ x :: l.drop i).length = l.length + 1 := by
  simp only [List.length_append, List.length_take, List.length_cons, List.length_drop]; omega

/-- The cells of an entry put in: place by place. -/
theorem ins_cell (l : List LkS) (x : LkS) (i j : Nat) (hi : i ≤ l.length) : (lkCells (l.take i ++ x :: l.drop i))[j]? =
    if j < i * 4 then (lkCells l)[j]? else if j < (i + 1) * 4 then x.cells[j - i * 4]? else (lkCells l)[j - 4]? := by
  have hl := lkCells_length l
  have hx : x.cells.length = 4 := rfl
  rw [lkCells_ins l x i hi]
  split
  · rename_i h
    rw [List.getElem?_append_left (by rw [List.length_take]; omega), List.getElem?_take, if_pos h]
  · rename_i h
    have hlt : ((lkCells l).take (i * 4)).length = i * 4 := by rw [List.length_take]; omega
    rw [List.getElem?_append_right (by omega), hlt]
    split
    · rw [List.getElem?_append_left (by omega)]
    · rw [List.getElem?_append_right (by omega), List.getElem?_drop, hx]
      congr 1
      omega

set_option maxHeartbeats 4000000 in
theorem ins_end (B : Nat) (v : Value) (l : List LkS) (x : LkS) (k : Nat) (w : World) (h : w.ownsRow B 42 4 v l.length (lkCells l)) (hk : Blk w k x.cells.toArray 42) (hl : l.length ≤ 1024) (hB : B ≤ w.heap.size) :
    Calls Tryz.prog 63 #[v, .int .i64 l.length, .slice (some ⟨k, 0, none⟩) 1 1] w fun e w' =>
      ∃ v', e = .returned v' ∧ w'.ownsRow B 42 4 v' (l.length + 1) (lkCells l ++ x.cells) ∧ Upd v.ownBlock.toList w w' ∧ (∀ g, v'.ownBlock = some g → v.ownBlock = some g ∨ w.heap.size ≤ g) := by
  obtain ⟨i0, hinf, hz0, hz1, hz2⟩ := info_parts Tryz.infoLk
  obtain ⟨a, cap, rfl, hnc, hcm, hac⟩ := own_open2 h
  have hcell : ∀ j u, x.cells[j]? = some u → w.cell? ((⟨k, 0, none⟩ : Addr).add j) = some u := fun j u hj => by
    rw [Addr.add_lit, Nat.zero_add, Blk.cell hk j, ← hj]; simp
  have HX := hd hcell
  have H := hd h
  have h1 : ∀ u ∈ x.cells, u.oneCell' = true := by
    intro u hu
    simp only [LkS.cells, List.mem_cons, List.not_mem_nil, or_false] at hu
    rcases hu with rfl | rfl | rfl | rfl <;> rfl
  have H1 := hd h1
  have hx4 : x.cells.length = 1 * 4 := rfl
  have HX4 := hd hx4
  generalize x.cells = xs at *
  clear hcell h h1 hk hx4
  by_cases hci : cap = l.length
  · subst hci
    go_enter Tryz.func63, Tryz.ntmps63
    go_wp2_with (at_builtin; refine wpList_append_own_at _ rfl (.tmp 23) (.tmp 24) 37 rfl B 42 i0 _ 4 40 Tryz.underlying37 hinf hz0 hz1 hz2 rfl (by decide) _ l.length (lkCells l) rfl H.out ⟨k, 0, none⟩ 1 1 xs rfl HX4.out HX.out H1.out (by unfold maxLen; omega) (by omega) hB ?_)
    intro v' w' hown hgr _ hblk
    have HO := hd hown
    have HU := hd (Upd.of_grown hgr)
    have HB := hd (show ∀ g, v'.ownBlock = some g → (Value.slice a l.length l.length).ownBlock = some g ∨ w.heap.size ≤ g from fun g hg => by
      rcases hblk with e | e
      · exact .inl (e ▸ hg)
      · rw [e] at hg; cases hg; exact .inr (Nat.le_refl _))
    clear hown hgr hblk
    go_wp2_with fail
    go_ret
    exact ⟨v', rfl, HO.out, HU.out, HB.out⟩
  · rcases hac with ⟨rfl, rfl⟩ | ⟨g, rfl⟩
    · omega
    · go_enter Tryz.func63, Tryz.ntmps63
      go_wp2_with (at_builtin; refine wpList_append_own_at _ rfl (.tmp 23) (.tmp 24) 37 rfl B 42 i0 _ 4 40 Tryz.underlying37 hinf hz0 hz1 hz2 rfl (by decide) _ l.length (lkCells l) rfl H.out ⟨k, 0, none⟩ 1 1 xs rfl HX4.out HX.out H1.out (by unfold maxLen; omega) (by omega) hB ?_)
      intro v' w' hown hgr _ hblk
      have HO := hd hown
      have HU := hd (Upd.of_grown hgr)
      have HB := hd (show ∀ q, v'.ownBlock = some q → (Value.slice (some ⟨g, 0, none⟩) l.length cap).ownBlock = some q ∨ w.heap.size ≤ q from fun q hg => by
        rcases hblk with e | e
        · exact .inl (e ▸ hg)
        · rw [e] at hg; cases hg; exact .inr (Nat.le_refl _))
      clear hown hgr hblk
      go_wp2_with fail
      go_ret
      exact ⟨v', rfl, HO.out, HU.out, HB.out⟩

theorem shape_of {w : World} {k T : Nat} {c : Array Value} (h : Blk w k c T) : w.shape? k = some (T, c.size) := by
  simp only [World.shape?]; rw [h]

set_option maxHeartbeats 4000000 in
/-- slices.Insert of one entry x ahead of the i-th. -/
theorem insert_any (B : Nat) (v : Value) (l : List LkS) (x : LkS) (i k : Nat) (w : World) (h : w.ownsRow B 42 4 v l.length (lkCells l)) (hk : Blk w k x.cells.toArray 42) (hkv : ∀ g, v.ownBlock = some g → k ≠ g)
    (hi : i ≤ l.length) (hl : l.length ≤ 1024) (hB : B ≤ w.heap.size) :
    Calls Tryz.prog 63 #[v, .int .i64 i, .slice (some ⟨k, 0, none⟩) 1 1] w fun e w' =>
      ∃ v', e = .returned v' ∧ w'.ownsRow B 42 4 v' (l.length + 1) (lkCells (l.take i ++ x :: l.drop i)) ∧ Upd v.ownBlock.toList w w' ∧ (∀ g, v'.ownBlock = some g → v.ownBlock = some g ∨ w.heap.size ≤ g) := by
  rcases Nat.lt_or_ge i l.length with hin | hin
  · have hh := h
    obtain ⟨hll, h⟩ := h
    rcases h with ⟨rfl, hn⟩ | ⟨g, cap, cur, rfl, hb, hg, hnc, hcm, hcs, ht⟩
    · omega
    · have hkg : k ≠ g := hkv g rfl
      have hlen := lkCells_length l
      have hlg : g < w.heap.size := Blk.lt hg
      have hlk : k < w.heap.size := hk.lt
      have hcell : ∀ j, j < l.length * 4 → cur[j]? = (lkCells l)[j]? := fun j hj => by
        rw [← ht, List.getElem?_take, if_pos hj]; simp
      have hcs0 : ∀ j u, (lkCells l)[j]? = some u → w.cell? ⟨g, j, none⟩ = some u := fun j u hj => by
        have hjl : j < (lkCells l).length := (List.getElem?_eq_some_iff.1 hj).1
        rw [Blk.cell hg j, hcell j (by omega), hj]
      have hvs0 : ∀ j u, x.cells[j]? = some u → w.cell? ⟨k, j, none⟩ = some u := fun j u hj => by rw [Blk.cell hk j, ← hj]; simp
      have h1v : ∀ u ∈ x.cells, u.oneCell' = true := by
        intro u hu
        simp only [LkS.cells, List.mem_cons, List.not_mem_nil, or_false] at hu
        rcases hu with rfl | rfl | rfl | rfl <;> rfl
      have hins := fun j => ins_cell l x i j hi
      have hlins : (lkCells (l.take i ++ x :: l.drop i)).length = (l.length + 1) * 4 := by rw [lkCells_length, lks_ins_len l x i hi]
      have hx4 : x.cells.length = 4 := rfl
      have hdl : ((lkCells l).drop (i * 4)).length = (l.length - i) * 4 := by rw [List.length_drop, hlen]; omega
      have hcm63 : cap ≤ 9223372036854775807 := by unfold maxLen at hcm; omega
      rcases Nat.lt_or_ge cap (l.length + 1) with hr | hr
      · refine (ins_grow g k l.length cap i (lkCells l) x.cells w hin hnc hr hl hkg hlg hlk hlen rfl hcs0 hvs0 (one_cells l) h1v).mono ?_
        rintro e w' ⟨G, ROW, hG1, hG2, hG3, hG4, rfl, rfl⟩
        obtain ⟨W0, hW0⟩ : ∃ W0, W0 = (w.alloc (.cells ROW 42)).drew := ⟨_, rfl⟩
        have hb0 : Blk W0 w.heap.size ROW 42 := by rw [hW0]; exact Blk.newd w ROW _ rfl
        have hu0 : Upd [] w W0 := by rw [hW0]; exact ((Upd.refl _ _).alloc _).drew
        obtain ⟨c1, hb1, hs1⟩ := setCells_blk (T := 42) x.cells (i * 4) W0 ROW hb0
        have hb1' : Blk (W0.setCells w.heap.size (i * 4) x.cells).drew w.heap.size c1 42 := hb1
        obtain ⟨c2, hb2, hs2⟩ := setCells_blk (T := 42) ((lkCells l).drop (i * 4)) ((i + 1) * 4) _ c1 hb1'
        rw [← hW0]
        refine ⟨_, rfl, ?_, ?_, fun q hq => ?_⟩
        · refine own_of_cells hb2 hB hG1 hG2 (by omega) hlins (fun j hj => ?_)
          rw [hins j]
          have e0 : ∀ q, W0.cell? ⟨w.heap.size, q, none⟩ = ROW[q]? := fun q => Blk.cell hb0 q
          have e1 : ∀ q, (W0.setCells w.heap.size (i * 4) x.cells).drew.cell? ⟨w.heap.size, q, none⟩ = (W0.setCells w.heap.size (i * 4) x.cells).cell? ⟨w.heap.size, q, none⟩ := fun q => rfl
          split
          · rename_i hj1
            rw [World.cell?_setCells_out _ _ _ _ _ (fun _ _ => .inl (by simp; omega)), e1, World.cell?_setCells_out _ _ _ _ _ (fun _ _ => .inl (by simpa using hj1)), e0, hG4 j hj1]
          · rename_i hj1
            split
            · rename_i hj2
              rw [World.cell?_setCells_out _ _ _ _ _ (fun _ _ => .inl (by simpa using hj2)), e1]
              have := World.cell?_setCells_in w.heap.size x.cells (i * 4) W0 (fun t ht => by rw [e0, Array.getElem?_eq_getElem (by omega)]; rfl) (j - i * 4) (by omega)
              rw [show i * 4 + (j - i * 4) = j by omega] at this
              rw [this, List.getElem?_eq_getElem (by omega)]
            · rename_i hj2
              have := World.cell?_setCells_in w.heap.size ((lkCells l).drop (i * 4)) ((i + 1) * 4) (W0.setCells w.heap.size (i * 4) x.cells).drew (fun t ht => by rw [Blk.cell hb1' _, Array.getElem?_eq_getElem (by omega)]; rfl) (j - (i + 1) * 4) (by omega)
              rw [show (i + 1) * 4 + (j - (i + 1) * 4) = j by omega] at this
              rw [this, List.getElem_drop, List.getElem?_eq_getElem (by omega)]
              congr 2
              omega
        · refine hu0.trans' (M := [w.heap.size]) ((setCells_upd _ _ _).drew.trans (setCells_upd _ _ _)) (by simp) |>.mono (by simp)
        · simp only [Value.ownBlock, Option.some.injEq] at hq
          exact .inr (by omega)
      · refine (ins_room g k l.length cap i (lkCells l) x.cells w hin hr hcm63 hkg hlen rfl hcs0 (fun j hj => by rw [Blk.cell hg j, Array.getElem?_eq_getElem (by omega)]; rfl) (fun j => Blk.frozen hg j) hvs0 (one_cells l) h1v 4 cur.size (shape_of hk) (shape_of hg) (by omega) (fun j => Blk.frozen hk j)).mono ?_
        rintro e w' ⟨rfl, rfl⟩
        have hb0 : Blk w.drew g cur 42 := hg
        obtain ⟨c1, hb1, hs1⟩ := setCells_blk (T := 42) ((lkCells l).drop (i * 4)) ((i + 1) * 4) w.drew cur hb0
        obtain ⟨c2, hb2, hs2⟩ := setCells_blk (T := 42) x.cells (i * 4) _ c1 hb1
        refine ⟨_, rfl, ?_, ?_, fun q hq => .inl hq⟩
        · refine own_of_cells hb2 hb hr hcm (by omega) hlins (fun j hj => ?_)
          rw [hins j]
          have e0 : ∀ q, w.drew.cell? ⟨g, q, none⟩ = cur[q]? := fun q => Blk.cell hb0 q
          split
          · rename_i hj1
            rw [World.cell?_setCells_out _ _ _ _ _ (fun _ _ => .inl (by simpa using hj1)), World.cell?_setCells_out _ _ _ _ _ (fun _ _ => .inl (by simp; omega)), e0, hcell j (by omega)]
          · rename_i hj1
            split
            · rename_i hj2
              have := World.cell?_setCells_in g x.cells (i * 4) (w.drew.setCells g ((i + 1) * 4) ((lkCells l).drop (i * 4))) (fun t ht => by rw [Blk.cell hb1 _, Array.getElem?_eq_getElem (by omega)]; rfl) (j - i * 4) (by omega)
              rw [show i * 4 + (j - i * 4) = j by omega] at this
              rw [this, List.getElem?_eq_getElem (by omega)]
            · rename_i hj2
              rw [World.cell?_setCells_out _ _ _ _ _ (fun _ _ => .inr (by simp; omega))]
              have := World.cell?_setCells_in g ((lkCells l).drop (i * 4)) ((i + 1) * 4) w.drew (fun t ht => by rw [e0, Array.getElem?_eq_getElem (by omega)]; rfl) (j - (i + 1) * 4) (by omega)
              rw [show (i + 1) * 4 + (j - (i + 1) * 4) = j by omega] at this
              rw [this, List.getElem_drop, List.getElem?_eq_getElem (by omega)]
              congr 2
              omega
        · exact ((Upd.refl [g] w).drew.trans (setCells_upd _ _ _)).trans (setCells_upd _ _ _) |>.mono (by simp [Value.ownBlock])
  · obtain rfl : i = l.length := by omega
    have := ins_end B v l x k w h hk hl hB
    rw [List.take_length, List.drop_length]
    have e : lkCells (l ++ [x]) = lkCells l ++ x.cells := by simp [lkCells]
    rw [e]
    exact this
end Go.Proofs.YtpniggmdokkkcaaGreatDoor

/-
  locks: grant, walked. Conditions: the held locks stand in order; a token is left; good paths.
-/
set_option linter.unusedVariables false
set_option linter.unusedSimpArgs false
set_option maxRecDepth 100000
namespace Go.Proofs.YtpniggmdokkkcaaGreatDoor
open Go.RowKit

/-- A lock put in where it belongs. -/
def insK (l : List LkS) (x : LkS) : List LkS := l.take (ahead l x) ++ x :: l.drop (ahead l x)
def tokd (d : BkS) (x : LkS) : LkS := { x with tok := d.last + 1 }
theorem alloc_lt (w : World) (o : Obj) : w.heap.size < ((w.alloc o).drew).heap.size := by
  show w.heap.size < (w.heap.push _).size
  simp
def grantB (d : BkS) (x : LkS) : BkS := { d with held := insK d.held (tokd d x), last := d.last + 1 }
theorem ord_tok (y x : LkS) (t : Int) : ordI y { x with tok := t } = ordI y x := rfl
theorem ahead_le (l : List LkS) (x : LkS) : ahead l x ≤ l.length := by
  unfold ahead
  exact (List.takeWhile_sublist _).length_le
theorem insK_length (l : List LkS) (x : LkS) : (insK l x).length = l.length + 1 := lks_ins_len l x _ (ahead_le l x)

set_option maxHeartbeats 4000000 in
theorem grant_any {B k : Nat} {vh vw : Value} {d : BkS} (x : LkS) (w : World) (h : BookAt B w k vh vw d) (hD : Door w) (hE : 1 ≠ k) (hM : 0 ≠ k)
    (hf : ∀ y ∈ d.held, Six y.path) (hx : Six x.path) (hm : Mono d.held x) (hl : d.held.length ≤ 1000) (h0 : 0 ≤ d.last) (h1 : d.last < 18446744073709551615) (hB : B ≤ w.heap.size) :
    Calls Tryz.prog 37 #[.pointer (some ⟨k, 0, none⟩), x.val] w fun e w' =>
      ∃ vh', e = .returned (tokd d x).val ∧ BookAt B w' k vh' vw (grantB d x) ∧ Upd (k :: vh.ownBlock.toList) w w' ∧ (∀ g, vh'.ownBlock = some g → vh.ownBlock = some g ∨ w.heap.size ≤ g) := by
  have e0 := two_lk w x.cells.toArray #[.int .i64 0, .string ⟨#[]⟩, .bool false, .int .u64 0] 42
  have hxc : x.cells.toArray = #[.int .i64 x.ses, .string (txt (textL x.path)), .bool x.excl, .int .u64 x.tok] := rfl
  rw [hxc] at e0
  have HXV := hd (show x.val = .agg #[.int .i64 x.ses, .string (txt (textL x.path)), .bool x.excl, .int .u64 x.tok] from rfl)
  rw [HXV.out]
  have hne := h.ne
  have hwr : IntKind.u64.wrap (d.last + 1) = d.last + 1 := by simp [IntKind.wrap, IntKind.bits, IntKind.signed]; omega
  obtain ⟨a1, n1, rfl, hn1, hm1, -⟩ := own_open h.held
  obtain ⟨a2, n2, rfl, hn2, hm2, -⟩ := own_open h.waits
  have hap := h.apart
  have hG1 := own_ge h.held
  have hG2 := own_ge h.waits
  have HS := hd (fun W (hD' : Door W) (hv : LksAt W (.slice a1 d.held.length n1) d.held) => search_any (tokd d x) d.held (.slice a1 d.held.length n1) W hv hD' hf hx (fun i j hij hj => hm i j hij hj) (by omega))
  unfold LkS.val at HS
  simp only [tokd] at HS
  obtain ⟨i, hi⟩ : ∃ i, i = ahead d.held (tokd d x) := ⟨_, rfl⟩
  have hil := ahead_le d.held (tokd d x)
  rw [← hi] at hil
  have hi2 : ahead d.held { ses := x.ses, path := x.path, excl := x.excl, tok := d.last + 1 } = i := hi.symm
  rw [hi2] at HS
  have HI0 := hd hi
  have HH := hd h
  have HNE := hd hne
  have HAP := hd hap
  have HDD := hd hD
  have hb := h.blk
  simp only [BkS.cells] at hb
  clear hi hi2 hxc hne hap hD h hf hx hm
  go_enter Tryz.func37, Tryz.ntmps37
  go_upto_region 1 with fail
  obtain ⟨W, kx, kr, hkx, hkr, hW, hu, hbx, hbr⟩ := e0
  rw [hW, hkx, hkr]
  have hkw : k < w.heap.size := hb.lt
  have hkl : k < W.heap.size := by have := hu.size; omega
  have q1 : ¬ (k = kx) := by omega
  have q2 : ¬ (kx = k) := by omega
  have q3 : ¬ (k = kr) := by omega
  have q4 : ¬ (kr = k) := by omega
  have q5 : ¬ (kx = kr) := by omega
  have q6 : ¬ (kr = kx) := by omega
  have hbW := hb.upd hu (by simp)
  have hc := hbW.cell
  have hz := hbW.frozen
  have hcx := hbx.cell
  have hzx := hbx.frozen
  have e3 : ∃ W2, (W.setCell ⟨k, 2, none⟩ (.int .u64 (d.last + 1))).setCell ⟨kx, 3, none⟩ (.int .u64 (d.last + 1)) = W2 ∧ Upd [k] w W2 ∧ Blk W2 k #[.slice a1 d.held.length n1, .slice a2 d.waits.length n2, .int .u64 (d.last + 1)] 62 ∧ Blk W2 kx #[.int .i64 x.ses, .string (txt (textL x.path)), .bool x.excl, .int .u64 (d.last + 1)] 42 ∧ Blk W2 kr #[.int .i64 0, .string ⟨#[]⟩, .bool false, .int .u64 0] 42 := by
    refine ⟨_, rfl, ?_, ?_, ?_, ?_⟩
    · exact ((hu.mono (by simp)).setCell (p := ⟨k, 2, none⟩) (.inl (by simp)) _).setCell (p := ⟨kx, 3, none⟩) (.inr (by simp only; omega)) _
    · exact (hbW.set 2 _).set_other q1 _
    · exact (hbx.set_other q2 _).set 3 _
    · exact (hbr.set_other q4 _).set_other q6 _
  clear hW hbr hb
  go_upto_region 3 with fail
  obtain ⟨W2, hW2, hu2, hb2, hbx2, hbr2⟩ := e3
  rw [hW2]
  have HU2 := hd hu2
  have hkl2 : k < W2.heap.size := by have := hu2.size; omega
  have HHELD := hd (own_upd (L := [k]) HH.out.held hu2 (fun g hg hmem => HNE.out.1 (by rw [hg]; simpa using hmem)))
  have HWAIT := hd (own_upd (L := [k]) HH.out.waits hu2 (fun g hg hmem => HNE.out.2 (by rw [hg]; simpa using hmem)))
  have HD2 := hd (HDD.out.upd hu2 (by simpa using hE) (by simpa using hM))
  have HKS := hd (show ∀ W', Upd [] W2 W' → ((∀ o', W'.cell? ⟨k, o', none⟩ = #[.slice a1 d.held.length n1, .slice a2 d.waits.length n2, .int .u64 (d.last + 1)][o']?) ∧ (∀ o', W'.cell? ⟨kx, o', none⟩ = #[.int .i64 x.ses, .string (txt (textL x.path)), .bool x.excl, .int .u64 (d.last + 1)][o']?)) from fun W' h => ⟨(hb2.upd h (by simp)).cell, (hbx2.upd h (by simp)).cell⟩)
  have hcb := hb2.cell
  have hcx2 := hbx2.cell
  have HB2 := hd hb2
  have HBX2 := hd hbx2
  have HBR2 := hd hbr2
  have HKX := hd (show w.heap.size ≤ kx ∧ w.heap.size ≤ kr from ⟨by omega, by omega⟩)
  have HWS := hd (show w.heap.size ≤ W2.heap.size from hu2.size)
  clear hW2 hu2 hb2 hbx2 hbr2 hc hz hcx hzx hbW hbx hu hkx hkr
  go_region_held3 (fun W' => (∀ o', W'.cell? ⟨k, o', none⟩ = #[.slice a1 d.held.length n1, .slice a2 d.waits.length n2, .int .u64 (d.last + 1)][o']?) ∧ (∀ o', W'.cell? ⟨kx, o', none⟩ = #[.int .i64 x.ses, .string (txt (textL x.path)), .bool x.excl, .int .u64 (d.last + 1)][o']?))
    ((refine HKS.out _ ?_; repeat (first | with_reducible exact Upd.refl _ _ | with_reducible exact hup1 | with_reducible refine Upd.drew ?_ | with_reducible refine Upd.alloc ?_ _)))
    (first
    | ((with_reducible refine (HS.out _ (HD2.out.later ((Upd.refl [] W2).drew)) ((row_lks HHELD.out).later ((Upd.refl [] W2).drew))).mono ?_); rintro e w3 ⟨bb, rfl, hu3⟩; have hup1 : Upd [] W2 w3 := ((Upd.refl [] W2).drew).trans hu3)
    | fail "no arm")
  all_goals
    have hbk := HB2.out.upd hup1 (by simp)
    have hbx3 := HBX2.out.upd hup1 (by simp)
    have hbr3 := HBR2.out.upd hup1 (by simp)
    have hcc := hbk.cell
    have hzz := hbk.frozen
    have hcx3 := hbx3.cell
    have hl3 : W2.heap.size ≤ w3.heap.size := hup1.size
    have hlk3 : k < w3.heap.size := by omega
    have HHE3 := hd (own_upd (L := []) HHELD.out hup1 (by simp))
    have HWA3 := hd (own_upd (L := []) HWAIT.out hup1 (by simp))
    have HI : Hd (∀ W (_ : Upd [] w3 W) q (_ : Blk W q #[.int .i64 x.ses, .string (txt (textL x.path)), .bool x.excl, .int .u64 (d.last + 1)] 42) (_ : w3.heap.size ≤ q),
        Calls Tryz.prog 63 #[.slice a1 d.held.length n1, .int .i64 i, .slice (some ⟨q, 0, none⟩) 1 1] W fun e w' =>
          ∃ v', e = .returned v' ∧ w'.ownsRow B 42 4 v' (d.held.length + 1) (lkCells (d.held.take i ++ tokd d x :: d.held.drop i)) ∧ Upd (Value.slice a1 d.held.length n1).ownBlock.toList W w' ∧ (∀ g, v'.ownBlock = some g → (Value.slice a1 d.held.length n1).ownBlock = some g ∨ W.heap.size ≤ g)) :=
      hd (fun W hu q hq hql => insert_any B (.slice a1 d.held.length n1) d.held (tokd d x) i q W (own_upd (L := []) HHE3.out hu (by simp)) hq (fun g hg => by have := (own_ge HHE3.out g hg).2; omega) hil (by omega) (by have := hu.size; have := HWS.out; omega))
    have hbn : k ∉ (Value.slice a1 d.held.length n1).ownBlock.toList := fun hm => HNE.out.1 (by simpa using hm)
    have hxn : kx ∉ (Value.slice a1 d.held.length n1).ownBlock.toList := fun hm => by have := (hG1 kx (by simpa using hm)).2; have := HKX.out.1; omega
    have hrn : kr ∉ (Value.slice a1 d.held.length n1).ownBlock.toList := fun hm => by have := (hG1 kr (by simpa using hm)).2; have := HKX.out.2; omega
    have HBK := hd hbk
    have HBX3 := hd hbx3
    have HBR3 := hd hbr3
    have HBN := hd hbn
    have HXN := hd hxn
    have HRN := hd hrn
    have HG1 := hd hG1
    have HG2 := hd hG2
    have HU3 := hd (HU2.out.trans (hup1.mono (M := [k]) (by simp)))
    clear hbn hxn hrn hbk hbx3 hbr3 hG1 hG2 hup1 hu3
    go_upto_region 4 with fail
    go_region_with (first
      | ((with_reducible refine (HI.out _ ((Upd.refl [] w3).alloc _).drew _ (Blk.newd w3 _ _ rfl) (Nat.le_refl _)).mono ?_); rintro e w6 ⟨v', rfl, ho6, hu6, hg6⟩; obtain ⟨xa, xc, rfl, -⟩ := own_open ho6; have kb := HBK.out.upd (((Upd.refl [] w3).alloc _).drew) (by simp) |>.upd hu6 HBN.out; have kc := kb.cell; have kz := kb.frozen; have kl := kb.lt; have kx3 := HBX3.out.upd (((Upd.refl [] w3).alloc _).drew) (by simp) |>.upd hu6 HXN.out; have kxc := kx3.cell; have kr3 := HBR3.out.upd (((Upd.refl [] w3).alloc _).drew) (by simp) |>.upd hu6 HRN.out; have krc := kr3.cell; have krz := kr3.frozen; have krl := kr3.lt; have KB := hd kb; have KX := hd kx3; have KR := hd kr3; have KO := hd ho6; have KU := hd hu6; have KG := hd hg6; clear kb kx3 kr3 ho6 hu6 hg6))
  all_goals
    go_wp2_with fail
    have hq : (insK d.held (tokd d x)) = d.held.take i ++ tokd d x :: d.held.drop i := by rw [HI0.out]; rfl
    have hv' := HKX.out
    have hgn : ∀ g, (Value.slice xa (d.held.length + 1) xc).ownBlock = some g → g ≠ k ∧ g ≠ kr := fun g hg => by
      rcases KG.out g hg with e | e
      · have e1 := (HG1.out g e).2
        exact ⟨fun e2 => HNE.out.1 (by rw [e, e2]), by omega⟩
      · have h9 : W2.heap.size ≤ w3.heap.size := hl3
        have h8 := HBR3.out.lt
        have := alloc_lt w3 (.cells #[.int .i64 x.ses, .string (txt (textL x.path)), .bool x.excl, .int .u64 (d.last + 1)] 42)
        omega
    have hU6 : Upd (k :: (Value.slice a1 d.held.length n1).ownBlock.toList) w w6 :=
      ((HU3.out.trans ((Upd.refl [k] w3).alloc _).drew).mono (by intro j hj; exact .inl (by simp only [List.mem_cons, List.not_mem_nil, or_false] at hj; simp [hj]))).trans (KU.out.mono (fun j hj => .inl (List.mem_cons_of_mem _ hj)))
    refine bodyPost_ret (res_lk1 _ 4 rfl _ _ kr (tokd d x) rfl (put4 (Blk.set_other (p := ⟨k, 0, none⟩) KR.out q4 _) (tokd d x))) rfl ?_
    refine ⟨.slice xa (d.held.length + 1) xc, rfl, ?_, ?_, ?_⟩
    · refine ⟨?_, ?_, ?_, ?_⟩
      · exact (((((KB.out.set 0 _).set_other q3 _).set_other q3 _).set_other q3 _).set_other q3 _)
      · have ho : LkRow B w6 (.slice xa (d.held.length + 1) xc) (insK d.held (tokd d x)) := by
          unfold LkRow
          rw [insK_length, hq]
          exact KO.out
        exact own_upd (L := [k, kr]) ho (up4 ((Upd.refl [k, kr] w6).setCell (p := ⟨k, 0, none⟩) (.inl (by simp)) _) (.inl (by simp)) _ _ _ _) (fun g hg hm => by
          have := hgn g hg
          simp only [List.mem_cons, List.not_mem_nil, or_false] at hm
          omega)
      · have hw6 : LkRow B w6 (.slice a2 d.waits.length n2) d.waits := own_upd (own_upd (L := []) HWA3.out ((Upd.refl [] w3).alloc _).drew (by simp)) KU.out (fun g hg hm => HAP.out g (by simpa using hm) hg)
        exact own_upd (L := [k, kr]) hw6 (up4 ((Upd.refl [k, kr] w6).setCell (p := ⟨k, 0, none⟩) (.inl (by simp)) _) (.inl (by simp)) _ _ _ _) (fun g hg hm => by
          simp only [List.mem_cons, List.not_mem_nil, or_false] at hm
          have := (HG2.out g hg).2
          rcases hm with rfl | rfl
          · exact HNE.out.2 hg
          · omega)
      · intro g hg hg'
        rcases KG.out g hg with e | e
        · exact HAP.out g e hg'
        · have h7 := (HG2.out g hg').2
          have h6 := HWS.out
          have := alloc_lt w3 (.cells #[.int .i64 x.ses, .string (txt (textL x.path)), .bool x.excl, .int .u64 (d.last + 1)] 42)
          omega
    · exact up4 (hU6.setCell (p := ⟨k, 0, none⟩) (.inl (by simp)) _) (.inr hv'.2) _ _ _ _
    · intro g hg
      rcases KG.out g hg with e | e
      · exact .inl e
      · have h6 := HWS.out
        have := alloc_lt w3 (.cells #[.int .i64 x.ses, .string (txt (textL x.path)), .bool x.excl, .int .u64 (d.last + 1)] 42)
        exact .inr (by omega)
end Go.Proofs.YtpniggmdokkkcaaGreatDoor
