/-
  slices.Insert of one entry into an owned row of entries, its one contract. Conditions: those that the theorem states.
-/
import Derived.Test.YtfhmdeamhmjddaaIns3
set_option linter.unusedVariables false
set_option linter.unusedSimpArgs false
set_option maxRecDepth 100000
namespace Go.Proofs.Ytfhmdeamhmjddaa
open Go.RowKit Go.Lib

theorem ents_ins_len (l : List EntS) (x : EntS) (i : Nat) (hi : i ≤ l.length) : (l.take i ++ x :: l.drop i).length = l.length + 1 := by
  simp only [List.length_append, List.length_take, List.length_cons, List.length_drop]; omega

/-- The cells of an entry put in: place by place. -/
theorem ins_cell (l : List EntS) (x : EntS) (i j : Nat) (hi : i ≤ l.length) : (entCells (l.take i ++ x :: l.drop i))[j]? =
    if j < i * 4 then (entCells l)[j]? else if j < (i + 1) * 4 then x.cells[j - i * 4]? else (entCells l)[j - 4]? := by
  have hl := entCells_length l
  have hx : x.cells.length = 4 := rfl
  rw [entCells_ins l x i hi]
  split
  · rename_i h
    rw [List.getElem?_append_left (by rw [List.length_take]; omega), List.getElem?_take, if_pos h]
  · rename_i h
    have hlt : ((entCells l).take (i * 4)).length = i * 4 := by rw [List.length_take]; omega
    rw [List.getElem?_append_right (by omega), hlt]
    split
    · rw [List.getElem?_append_left (by omega)]
    · rw [List.getElem?_append_right (by omega), List.getElem?_drop, hx]
      congr 1
      omega

set_option maxHeartbeats 4000000 in
theorem ins_end (B : Nat) (v : Value) (l : List EntS) (x : EntS) (k : Nat) (w : World) (h : w.ownsRow B 85 4 v l.length (entCells l)) (hk : Blk w k x.cells.toArray 85) (hl : l.length ≤ 1024) (hB : B ≤ w.heap.size) :
    Calls Try.prog 43 #[v, .int .i64 l.length, .slice (some ⟨k, 0, none⟩) 1 1] w fun e w' =>
      ∃ v', e = .returned v' ∧ w'.ownsRow B 85 4 v' (l.length + 1) (entCells l ++ x.cells) ∧ Upd v.ownBlock.toList w w' ∧ (∀ g, v'.ownBlock = some g → v.ownBlock = some g ∨ w.heap.size ≤ g) := by
  obtain ⟨i0, hinf, hz0, hz1, hz2⟩ := info_parts Try.infoEnt
  obtain ⟨a, cap, rfl, hnc, hcm, hac⟩ := own_open2 h
  have hcell : ∀ j u, x.cells[j]? = some u → w.cell? ((⟨k, 0, none⟩ : Addr).add j) = some u := fun j u hj => by
    rw [Addr.add_lit, Nat.zero_add, Blk.cell hk j, ← hj]; simp
  have HX := hd hcell
  have H := hd h
  have h1 : ∀ u ∈ x.cells, u.oneCell' = true := by
    intro u hu
    simp only [EntS.cells, List.mem_cons, List.not_mem_nil, or_false] at hu
    rcases hu with rfl | rfl | rfl | rfl <;> rfl
  have H1 := hd h1
  have hx4 : x.cells.length = 1 * 4 := rfl
  have HX4 := hd hx4
  generalize x.cells = xs at *
  clear hcell h h1 hk hx4
  by_cases hci : cap = l.length
  · subst hci
    go_enter Try.func43, Try.ntmps43
    go_wp2_with (at_builtin; refine wpList_append_own_at _ rfl (.tmp 23) (.tmp 24) 39 rfl B 85 i0 _ 4 40 Try.underlying39 hinf hz0 hz1 hz2 rfl (by decide) _ l.length (entCells l) rfl H.out ⟨k, 0, none⟩ 1 1 xs rfl HX4.out HX.out H1.out (by unfold maxLen; omega) (by omega) hB ?_)
    intro v' w' hown hgr _ hblk
    have HO := hd hown
    have HU := hd (Upd.of_grown hgr)
    have HB := hd (show ∀ g, v'.ownBlock = some g → (Value.slice a l.length l.length).ownBlock = some g ∨ w.heap.size ≤ g from fun g hg => by
      rcases hblk with e | e
      · exact .inl (e ▸ hg)
      · rw [e] at hg; cases hg; exact .inr (Nat.le_refl _))
    clear hown hgr hblk
    go_wp2_with fail
    go_ret
    exact ⟨v', rfl, HO.out, HU.out, HB.out⟩
  · rcases hac with ⟨rfl, rfl⟩ | ⟨g, rfl⟩
    · omega
    · go_enter Try.func43, Try.ntmps43
      go_wp2_with (at_builtin; refine wpList_append_own_at _ rfl (.tmp 23) (.tmp 24) 39 rfl B 85 i0 _ 4 40 Try.underlying39 hinf hz0 hz1 hz2 rfl (by decide) _ l.length (entCells l) rfl H.out ⟨k, 0, none⟩ 1 1 xs rfl HX4.out HX.out H1.out (by unfold maxLen; omega) (by omega) hB ?_)
      intro v' w' hown hgr _ hblk
      have HO := hd hown
      have HU := hd (Upd.of_grown hgr)
      have HB := hd (show ∀ q, v'.ownBlock = some q → (Value.slice (some ⟨g, 0, none⟩) l.length cap).ownBlock = some q ∨ w.heap.size ≤ q from fun q hg => by
        rcases hblk with e | e
        · exact .inl (e ▸ hg)
        · rw [e] at hg; cases hg; exact .inr (Nat.le_refl _))
      clear hown hgr hblk
      go_wp2_with fail
      go_ret
      exact ⟨v', rfl, HO.out, HU.out, HB.out⟩

theorem shape_of {w : World} {k T : Nat} {c : Array Value} (h : Blk w k c T) : w.shape? k = some (T, c.size) := by
  simp only [World.shape?]; rw [h]

set_option maxHeartbeats 4000000 in
/-- slices.Insert of one entry x ahead of the i-th. -/
theorem insert_any (B : Nat) (v : Value) (l : List EntS) (x : EntS) (i k : Nat) (w : World) (h : w.ownsRow B 85 4 v l.length (entCells l)) (hk : Blk w k x.cells.toArray 85) (hkv : ∀ g, v.ownBlock = some g → k ≠ g)
    (hi : i ≤ l.length) (hl : l.length ≤ 1024) (hB : B ≤ w.heap.size) :
    Calls Try.prog 43 #[v, .int .i64 i, .slice (some ⟨k, 0, none⟩) 1 1] w fun e w' =>
      ∃ v', e = .returned v' ∧ w'.ownsRow B 85 4 v' (l.length + 1) (entCells (l.take i ++ x :: l.drop i)) ∧ Upd v.ownBlock.toList w w' ∧ (∀ g, v'.ownBlock = some g → v.ownBlock = some g ∨ w.heap.size ≤ g) := by
  rcases Nat.lt_or_ge i l.length with hin | hin
  · have hh := h
    obtain ⟨hll, h⟩ := h
    rcases h with ⟨rfl, hn⟩ | ⟨g, cap, cur, rfl, hb, hg, hnc, hcm, hcs, ht⟩
    · omega
    · have hkg : k ≠ g := hkv g rfl
      have hlen := entCells_length l
      have hlg : g < w.heap.size := Blk.lt hg
      have hlk : k < w.heap.size := hk.lt
      have hcell : ∀ j, j < l.length * 4 → cur[j]? = (entCells l)[j]? := fun j hj => by
        rw [← ht, List.getElem?_take, if_pos hj]; simp
      have hcs0 : ∀ j u, (entCells l)[j]? = some u → w.cell? ⟨g, j, none⟩ = some u := fun j u hj => by
        have hjl : j < (entCells l).length := (List.getElem?_eq_some_iff.1 hj).1
        rw [Blk.cell hg j, hcell j (by omega), hj]
      have hvs0 : ∀ j u, x.cells[j]? = some u → w.cell? ⟨k, j, none⟩ = some u := fun j u hj => by rw [Blk.cell hk j, ← hj]; simp
      have h1v : ∀ u ∈ x.cells, u.oneCell' = true := by
        intro u hu
        simp only [EntS.cells, List.mem_cons, List.not_mem_nil, or_false] at hu
        rcases hu with rfl | rfl | rfl | rfl <;> rfl
      have hins := fun j => ins_cell l x i j hi
      have hlins : (entCells (l.take i ++ x :: l.drop i)).length = (l.length + 1) * 4 := by rw [entCells_length, ents_ins_len l x i hi]
      have hx4 : x.cells.length = 4 := rfl
      have hdl : ((entCells l).drop (i * 4)).length = (l.length - i) * 4 := by rw [List.length_drop, hlen]; omega
      have hcm63 : cap ≤ 9223372036854775807 := by unfold maxLen at hcm; omega
      rcases Nat.lt_or_ge cap (l.length + 1) with hr | hr
      · refine (ins_grow g k l.length cap i (entCells l) x.cells w hin hnc hr hl hkg hlg hlk hlen rfl hcs0 hvs0 (one_cells l) h1v).mono ?_
        rintro e w' ⟨G, ROW, hG1, hG2, hG3, hG4, rfl, rfl⟩
        obtain ⟨W0, hW0⟩ : ∃ W0, W0 = (w.alloc (.cells ROW 85)).drew := ⟨_, rfl⟩
        have hb0 : Blk W0 w.heap.size ROW 85 := by rw [hW0]; exact Blk.newd w ROW _ rfl
        have hu0 : Upd [] w W0 := by rw [hW0]; exact ((Upd.refl _ _).alloc _).drew
        obtain ⟨c1, hb1, hs1⟩ := setCells_blk (T := 85) x.cells (i * 4) W0 ROW hb0
        have hb1' : Blk (W0.setCells w.heap.size (i * 4) x.cells).drew w.heap.size c1 85 := hb1
        obtain ⟨c2, hb2, hs2⟩ := setCells_blk (T := 85) ((entCells l).drop (i * 4)) ((i + 1) * 4) _ c1 hb1'
        rw [← hW0]
        refine ⟨_, rfl, ?_, ?_, fun q hq => ?_⟩
        · refine own_of_cells hb2 hB hG1 hG2 (by omega) hlins (fun j hj => ?_)
          rw [hins j]
          have e0 : ∀ q, W0.cell? ⟨w.heap.size, q, none⟩ = ROW[q]? := fun q => Blk.cell hb0 q
          have e1 : ∀ q, (W0.setCells w.heap.size (i * 4) x.cells).drew.cell? ⟨w.heap.size, q, none⟩ = (W0.setCells w.heap.size (i * 4) x.cells).cell? ⟨w.heap.size, q, none⟩ := fun q => rfl
          split
          · rename_i hj1
            rw [World.cell?_setCells_out _ _ _ _ _ (fun _ _ => .inl (by simp; omega)), e1, World.cell?_setCells_out _ _ _ _ _ (fun _ _ => .inl (by simpa using hj1)), e0, hG4 j hj1]
          · rename_i hj1
            split
            · rename_i hj2
              rw [World.cell?_setCells_out _ _ _ _ _ (fun _ _ => .inl (by simpa using hj2)), e1]
              have := World.cell?_setCells_in w.heap.size x.cells (i * 4) W0 (fun t ht => by rw [e0, Array.getElem?_eq_getElem (by omega)]; rfl) (j - i * 4) (by omega)
              rw [show i * 4 + (j - i * 4) = j by omega] at this
              rw [this, List.getElem?_eq_getElem (by omega)]
            · rename_i hj2
              have := World.cell?_setCells_in w.heap.size ((entCells l).drop (i * 4)) ((i + 1) * 4) (W0.setCells w.heap.size (i * 4) x.cells).drew (fun t ht => by rw [Blk.cell hb1' _, Array.getElem?_eq_getElem (by omega)]; rfl) (j - (i + 1) * 4) (by omega)
              rw [show (i + 1) * 4 + (j - (i + 1) * 4) = j by omega] at this
              rw [this, List.getElem_drop, List.getElem?_eq_getElem (by omega)]
              congr 2
              omega
        · refine hu0.trans' (M := [w.heap.size]) ((setCells_upd _ _ _).drew.trans (setCells_upd _ _ _)) (by simp) |>.mono (by simp)
        · simp only [Value.ownBlock, Option.some.injEq] at hq
          exact .inr (by omega)
      · refine (ins_room g k l.length cap i (entCells l) x.cells w hin hr hcm63 hkg hlen rfl hcs0 (fun j hj => by rw [Blk.cell hg j, Array.getElem?_eq_getElem (by omega)]; rfl) (fun j => Blk.frozen hg j) hvs0 (one_cells l) h1v 4 cur.size (shape_of hk) (shape_of hg) (by omega) (fun j => Blk.frozen hk j)).mono ?_
        rintro e w' ⟨rfl, rfl⟩
        have hb0 : Blk w.drew g cur 85 := hg
        obtain ⟨c1, hb1, hs1⟩ := setCells_blk (T := 85) ((entCells l).drop (i * 4)) ((i + 1) * 4) w.drew cur hb0
        obtain ⟨c2, hb2, hs2⟩ := setCells_blk (T := 85) x.cells (i * 4) _ c1 hb1
        refine ⟨_, rfl, ?_, ?_, fun q hq => .inl hq⟩
        · refine own_of_cells hb2 hb hr hcm (by omega) hlins (fun j hj => ?_)
          rw [hins j]
          have e0 : ∀ q, w.drew.cell? ⟨g, q, none⟩ = cur[q]? := fun q => Blk.cell hb0 q
          split
          · rename_i hj1
            rw [World.cell?_setCells_out _ _ _ _ _ (fun _ _ => .inl (by simpa using hj1)), World.cell?_setCells_out _ _ _ _ _ (fun _ _ => .inl (by simp; omega)), e0, hcell j (by omega)]
          · rename_i hj1
            split
            · rename_i hj2
              have := World.cell?_setCells_in g x.cells (i * 4) (w.drew.setCells g ((i + 1) * 4) ((entCells l).drop (i * 4))) (fun t ht => by rw [Blk.cell hb1 _, Array.getElem?_eq_getElem (by omega)]; rfl) (j - i * 4) (by omega)
              rw [show i * 4 + (j - i * 4) = j by omega] at this
              rw [this, List.getElem?_eq_getElem (by omega)]
            · rename_i hj2
              rw [World.cell?_setCells_out _ _ _ _ _ (fun _ _ => .inr (by simp; omega))]
              have := World.cell?_setCells_in g ((entCells l).drop (i * 4)) ((i + 1) * 4) w.drew (fun t ht => by rw [e0, Array.getElem?_eq_getElem (by omega)]; rfl) (j - (i + 1) * 4) (by omega)
              rw [show (i + 1) * 4 + (j - (i + 1) * 4) = j by omega] at this
              rw [this, List.getElem_drop, List.getElem?_eq_getElem (by omega)]
              congr 2
              omega
        · exact ((Upd.refl [g] w).drew.trans (setCells_upd _ _ _)).trans (setCells_upd _ _ _) |>.mono (by simp [Value.ownBlock])
  · obtain rfl : i = l.length := by omega
    have := ins_end B v l x k w h hk hl hB
    rw [List.take_length, List.drop_length]
    have e : entCells (l ++ [x]) = entCells l ++ x.cells := by simp [entCells]
    rw [e]
    exact this
end Go.Proofs.Ytfhmdeamhmjddaa
