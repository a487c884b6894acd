/-
  Package accept: Clone of entries, List, Clone, Prepare, walked. Conditions: those that each theorem states.
-/
import Derived.Test.YtfhmdeamhmjddaaAcc3
set_option linter.unusedVariables false
set_option linter.unusedSimpArgs false
set_option maxRecDepth 100000
namespace Go.Proofs.Ytfhmdeamhmjddaa
open Go.RowKit

/-- A slice of entries, wherever its cells lie. -/
def EntsAt (w : World) (v : Value) (ys : List EntS) : Prop :=
  ∃ a cap, v = .slice a ys.length cap ∧ (a = none → ys = []) ∧ (∀ b, a = some b → ∀ j u, (entCells ys)[j]? = some u → w.cell? (b.add j) = some u)

theorem own_entsAt {w : World} {B T : Nat} {v : Value} {ys : List EntS} (h : w.ownsRow B T 4 v ys.length (entCells ys)) : EntsAt w v ys := by
  obtain ⟨hl, h⟩ := h
  rcases h with ⟨rfl, hn⟩ | ⟨g, cap, cur, rfl, hb, hg, hnc, hcm, hcs, ht⟩
  · obtain rfl : ys = [] := List.eq_nil_of_length_eq_zero hn
    exact ⟨none, 0, rfl, fun _ => rfl, fun b hb => (nomatch hb)⟩
  · refine ⟨_, cap, rfl, fun h => (nomatch h), fun b hb j u hj => ?_⟩
    cases hb
    have hjl : j < (entCells ys).length := (List.getElem?_eq_some_iff.1 hj).1
    rw [Addr.add_lit, Nat.zero_add, Blk.cell hg j, ← hj, ← ht, List.getElem?_take, if_pos (by rw [entCells_length] at hjl; exact hjl)]
    simp
theorem entsAt_upd {L : List Nat} {w w' : World} {v : Value} {ys : List EntS} (h : EntsAt w v ys) (hu : Upd L w w') (hL : ∀ g, v.ownBlock = some g → g ∉ L) : EntsAt w' v ys := by
  obtain ⟨a, cap, rfl, h1, h2⟩ := h
  refine ⟨a, cap, rfl, h1, fun b hb j u hj => ?_⟩
  subst hb
  have hc := h2 b rfl j u hj
  have hbl : (b.add j).block < w.heap.size := World.block_lt_of_cell? w _ hc
  rw [← hc]
  refine World.cell?_of_block (hu.block _ hbl ?_)
  have : (b.add j).block = b.block := by unfold Addr.add; split <;> rfl
  rw [this]
  exact hL _ rfl

theorem one_cells (l : List EntS) : ∀ u ∈ entCells l, u.oneCell' = true := by
  intro u hu
  simp only [entCells, List.mem_flatMap, EntS.cells] at hu
  obtain ⟨e, _, hu⟩ := hu
  simp at hu
  rcases hu with rfl | rfl | rfl | rfl <;> rfl

theorem Try.infoEnt : (Try.prog.info? 85).map (fun i => (i.zero, i.size, i.bytes)) = some (some (.agg #[.int .i64 0, .int .u64 0, .int .i64 0, .string ⟨#[]⟩]), 4, 40) := by kernel_rfl

set_option maxHeartbeats 1000000 in
theorem eclone_any (v : Value) (ys : List EntS) (w : World) (h : EntsAt w v ys) (hl : ys.length ≤ 1024) :
    Calls Try.prog 41 #[v] w fun r w' =>
      ∃ v', r = .returned v' ∧ Upd [] w w' ∧ w'.ownsRow w.heap.size 85 4 v' ys.length (entCells ys) := by
  obtain ⟨i0, hinf, hz0, hz1, hz2⟩ := info_parts Try.infoEnt
  obtain ⟨a, cap, rfl, hn, hb⟩ := h
  cases a with
  | none =>
    obtain rfl := hn rfl
    clear hb
    go_enter Try.func41, Try.ntmps41
    have hel := fun W => Lib.run_eql_slice_nil (P := Try.prog) W 39 85 none 0 cap 0 0 Try.underlying39
    go_wp2_with fail
    go_ret
    exact ⟨_, rfl, Upd.refl _ _, World.ownsRow_nil _ _ _ _⟩
  | some b =>
    have HB := hd (hb b rfl)
    clear hb hn
    have hlen := entCells_length ys
    have h1 := hd (one_cells ys)
    generalize entCells ys = cs at *
    have HL := hd hlen
    clear hlen
    have hel := fun W => Lib.run_eql_slice_nil (P := Try.prog) W 39 85 (some b) ys.length cap 0 0 Try.underlying39
    go_enter Try.func41, Try.ntmps41
    go_wp2_with (at_builtin; refine wpList_append_own_at _ rfl (.tmp 5) (.tmp 6) 39 rfl w.heap.size 85 i0 _ 4 40 Try.underlying39 hinf hz0 hz1 hz2 rfl (by decide) _ 0 [] rfl ?c1 b ys.length cap cs rfl HL.out ?c2 h1.out ?c4 ?c5 ?c6 ?_)
    case c1 => exact ⟨rfl, .inr ⟨w.heap.size, 0, #[], rfl, by omega, Blk.new _ _ _, by omega, by unfold maxLen; omega, rfl, rfl⟩⟩
    case c2 => exact fun j u hj => Lib.cell?_alloc_some _ (HB.out j u hj)
    case c4 => unfold maxLen; omega
    case c5 => omega
    case c6 => simp
    intro v' w' hown hgr _ hblk
    have hu := Upd.of_grown hgr
    have HU := hd (show Upd [] w w' from ((Upd.refl [] w).alloc _).trans' hu (by simp [Value.ownBlock]))
    have HO := hd hown
    clear hown hgr hblk hu
    go_wp2_with fail
    go_ret
    exact ⟨v', rfl, HU.out, by simpa using HO.out⟩

theorem list_any (B b : Nat) (l : Value) (d : AccS) (w : World) (h : AccAt B w b l d) (hl : d.list.length ≤ 1024) :
    Calls Try.prog 20 #[.pointer (some ⟨b, 0, none⟩)] w fun r w' =>
      ∃ v', r = .returned v' ∧ Upd [] w w' ∧ w'.ownsRow w.heap.size 85 4 v' d.list.length (entCells d.list) := by
  have hc := h.blk.cell
  have hlt := h.blk.lt
  have H := hd h
  simp only [AccS.cells] at hc
  clear h
  go_enter Try.func20, Try.ntmps20
  go_wp2_with ((with_reducible refine (eclone_any l d.list _ (own_entsAt H.out.own) hl).mono ?_); rintro e w' ⟨v', rfl, hu, ho⟩; have HU := hd hu; have HO := hd ho; clear hu ho)
  go_ret
  exact ⟨v', rfl, HU.out, HO.out⟩

theorem own_one {w : World} {B T sz : Nat} {v : Value} {n : Nat} {xs : List Value} (h : w.ownsRow B T sz v n xs) : v.oneCell' = true := by
  obtain ⟨a, cap, rfl, _⟩ := own_open h
  rfl

theorem own_ge {w : World} {B T sz : Nat} {v : Value} {n : Nat} {xs : List Value} (h : w.ownsRow B T sz v n xs) : ∀ g, v.ownBlock = some g → B ≤ g ∧ g < w.heap.size := by
  intro g hg
  rcases h.2 with he | ⟨g', cap, cur, he, hb, hg', _⟩
  · rw [he.1] at hg; cases hg
  · rw [he] at hg
    simp only [Value.ownBlock, Option.some.injEq] at hg
    subst hg
    exact ⟨hb, Blk.lt hg'⟩

theorem aclone_any (B b : Nat) (l : Value) (d : AccS) (w : World) (h : AccAt B w b l d) (hl : d.list.length ≤ 1024) :
    Calls Try.prog 23 #[.pointer (some ⟨b, 0, none⟩)] w fun r w' =>
      ∃ b' l', r = .returned (.pointer (some ⟨b', 0, none⟩)) ∧ w.heap.size ≤ b' ∧ Upd [] w w' ∧ AccAt w.heap.size w' b' l' d := by
  obtain ⟨a, cap, rfl, -⟩ := own_open h.own
  have hc := h.blk.cell
  have hlt := h.blk.lt
  have H := hd h
  simp only [AccS.cells] at hc
  clear h
  go_enter Try.func23, Try.ntmps23
  go_wp2_with ((with_reducible refine (eclone_any _ d.list _ (own_entsAt (own_upd (L := []) H.out.own ((Upd.refl _ _).alloc _) (by simp))) hl).mono ?_); rintro e w' ⟨v', rfl, hu, ho⟩; obtain ⟨a', cap', rfl, -⟩ := own_open ho; have hbn := Blk.upd (Blk.new _ _ _) hu (by simp); have hcn := hbn.cell; have hzn := hbn.frozen; have HBN := hd hbn; have HU := hd hu; have HO := hd ho; clear hu ho hbn)
  go_ret
  refine ⟨_, _, rfl, Nat.le_refl _, ?_, ⟨HBN.out.set 4 _, ?_⟩⟩
  · exact (((Upd.refl [] w).alloc _).trans HU.out).setCell (.inr (Nat.le_refl _)) _
  · have ho := own_mono HO.out (B' := w.heap.size) (by simp)
    exact own_upd (L := [w.heap.size]) ho ((Upd.refl _ _).setCell (by simp) _) (fun g hg => by
      have := (own_ge HO.out g hg).1
      simp at this ⊢
      omega)

end Go.Proofs.Ytfhmdeamhmjddaa
