/-
  The document's disk (chatelaineref11), walked: With, New, Used. Conditions: a disk of four files, whose strings are of at most 2^40 bytes each.
-/
import Derived.Test.YtjaoiaknglnomaaDisk1
import Derived.Test.YtjaoiaknglnomaaLaws
import Derived.Deep.DeepMust
import Derived.Maps.AppendAt
set_option linter.unusedVariables false
set_option maxRecDepth 100000
namespace Go.Proofs.Ytjaoiaknglnomaa
open Go.RowKit

def DiskS.rows (d : DiskS) : List Value := [.string d.f0.now, .string d.f0.sure, .bool d.f0.put, .string d.f1.now, .string d.f1.sure, .bool d.f1.put,
  .string d.f2.now, .string d.f2.sure, .bool d.f2.put, .string d.f3.now, .string d.f3.sure, .bool d.f3.put]
/-- A value that is the document's disk x; its files lie from block B on. -/
def RefAt (B : Nat) (w : World) (l : Value) (x : DiskS) : Prop := w.ownsRow B 94 3 l 4 x.rows

theorem Try.infoFile : (Try.prog.info? 94).map (fun i => (i.zero, i.size, i.bytes)) = some (some (.agg #[.string ⟨#[]⟩, .string ⟨#[]⟩, .bool false]), 3, 40) := by kernel_rfl

set_option maxHeartbeats 400000 in
theorem with_any (x : DiskS) (l : Value) (i : Nat) (f : FileS) (w : World) (B : Nat) (hx : RefAt B w l x) (hi : i < 4) (hB : B ≤ w.heap.size) :
    Calls Try.prog 49 #[.agg #[l, .int .i64 x.room, .int .i64 x.fail], .int .i64 i, f.val] w fun e w' =>
      ∃ l', e = .returned (.agg #[l', .int .i64 x.room, .int .i64 x.fail]) ∧ Upd [] w w' ∧ RefAt w.heap.size w' l' (x.set i f) := by
  obtain ⟨i0, hinf, hz0, hz1, hz2⟩ := info_parts Try.infoFile
  obtain ⟨g, cap, rfl, hg, hgl, hcap, hc, hz⟩ := own_cases hx (by omega)
  simp only [DiskS.rows] at hc
  unfold FileS.val
  go_enter Try.func49, Try.ntmps49
  have HX := Lib.hid hx
  clear hx
  go_wp2_with (at_builtin; go_must (refine wpList_append_own_at _ rfl (.tmp 7) (.tmp 9) 26 rfl w.heap.size 94 i0 _ 3 40 Try.underlying26 hinf hz0 hz1 hz2 rfl (by decide) _ 0 [] rfl ?c1 ⟨g, 0, none⟩ 4 cap x.rows rfl rfl ?c2 ?c3 ?c4 ?c5 ?c6 ?_))
  case c1 => exact ⟨rfl, .inr ⟨w.heap.size + 1 + 1 + 1, 0, #[], rfl, by omega, Blk.new' _ _ _ (by simp), by omega, by unfold maxLen; omega, rfl, rfl⟩⟩
  case c2 => exact (own_upd HX.out ((((Upd.refl [] _).alloc _).alloc _).alloc _ |>.alloc _) (by simp)).cells rfl
  case c3 => simp [DiskS.rows, Value.oneCell']
  case c4 => unfold maxLen; omega
  case c5 => omega
  case c6 => simp; omega
  intro v' w' hown hgr _ hblk
  have hu := Upd.of_grown hgr
  have hb0 : Blk w' w.heap.size _ 28 := Blk.upd (((Blk.new w _ _).alloc _).alloc _ |>.alloc _) hu (by simp [Value.ownBlock]; omega)
  have hb1 := Blk.upd (((Blk.new (w.alloc _) _ _).alloc _).alloc _) hu (by simp [Value.ownBlock])
  have hb2 := Blk.upd ((Blk.new ((w.alloc _).alloc _) _ _).alloc _) hu (by simp [Value.ownBlock])
  simp only [World.size_alloc] at hb1 hb2
  have hsz := hu.size
  simp only [World.size_alloc] at hsz
  have hU : Upd [] w w' := ((((Upd.refl [] _).alloc _).alloc _).alloc _ |>.alloc _).trans' hu (by simp [Value.ownBlock]; omega)
  obtain ⟨g', cap', rfl, hg', hgl', hcap', hc', hz'⟩ := own_cases hown (by omega)
  have hgg : w.heap.size + 3 ≤ g' := by
    simp only [Value.ownBlock, Option.some.injEq] at hblk
    omega
  clear hgr hu hblk hc hz
  have hc0 := hb0.cell
  have hz0' := hb0.frozen
  have hc1 := hb1.cell
  have hc2 := hb2.cell
  have hz2' := hb2.frozen
  simp only [DiskS.rows] at hc'
  have HB0 := Lib.hid hb0
  have HB1 := Lib.hid hb1
  have HB2 := Lib.hid hb2
  have HO := Lib.hid hown
  have HU := Lib.hid hU
  clear hb0 hb1 hb2 hown hU
  rcases (by omega : i = 0 ∨ i = 1 ∨ i = 2 ∨ i = 3) with rfl | rfl | rfl | rfl
  · go_wp2
    refine bodyPost_ret (v := .agg #[.slice (some ⟨g', 0, none⟩) 4 cap', .int .i64 x.room, .int .i64 x.fail]) (by simp [results, Try.results49, go_sem, hc2]) rfl ?_
    refine ⟨_, rfl, HU.out.trans' (L := []) (M := [w.heap.size, g', w.heap.size + 2]) (by repeat (first | with_reducible exact HU.out | with_reducible exact Upd.refl _ _ | with_reducible refine Upd.alloc ?_ _ | with_reducible refine Upd.drew ?_ | with_reducible refine Upd.setCell ?_ (by first | (simp; done) | (simp; omega)) _)) (by simp; omega), ?_⟩
    have h1 := own_upd (L := [w.heap.size]) HO.out ((Upd.refl _ _).setCell (p := ⟨w.heap.size, 0, none⟩) (by simp) (.slice (some ⟨g', 0, none⟩) 4 cap')) (by simp [Value.ownBlock]; omega)
    have h2 := own_set (own_set (own_set h1 0 (by omega) (.string f.now)) 1 (by omega) (.string f.sure)) 2 (by omega) (.bool f.put)
    exact own_upd (L := [w.heap.size + 1 + 1]) h2 ((((Upd.refl _ _).setCell (by simp) _).setCell (by simp) _).setCell (by simp) _) (by simp [Value.ownBlock]; omega)
  · go_wp2
    refine bodyPost_ret (v := .agg #[.slice (some ⟨g', 0, none⟩) 4 cap', .int .i64 x.room, .int .i64 x.fail]) (by simp [results, Try.results49, go_sem, hc2]) rfl ?_
    refine ⟨_, rfl, HU.out.trans' (L := []) (M := [w.heap.size, g', w.heap.size + 2]) (by repeat (first | with_reducible exact HU.out | with_reducible exact Upd.refl _ _ | with_reducible refine Upd.alloc ?_ _ | with_reducible refine Upd.drew ?_ | with_reducible refine Upd.setCell ?_ (by first | (simp; done) | (simp; omega)) _)) (by simp; omega), ?_⟩
    have h1 := own_upd (L := [w.heap.size]) HO.out ((Upd.refl _ _).setCell (p := ⟨w.heap.size, 0, none⟩) (by simp) (.slice (some ⟨g', 0, none⟩) 4 cap')) (by simp [Value.ownBlock]; omega)
    have h2 := own_set (own_set (own_set h1 3 (by omega) (.string f.now)) 4 (by omega) (.string f.sure)) 5 (by omega) (.bool f.put)
    exact own_upd (L := [w.heap.size + 1 + 1]) h2 ((((Upd.refl _ _).setCell (by simp) _).setCell (by simp) _).setCell (by simp) _) (by simp [Value.ownBlock]; omega)
  · go_wp2
    refine bodyPost_ret (v := .agg #[.slice (some ⟨g', 0, none⟩) 4 cap', .int .i64 x.room, .int .i64 x.fail]) (by simp [results, Try.results49, go_sem, hc2]) rfl ?_
    refine ⟨_, rfl, HU.out.trans' (L := []) (M := [w.heap.size, g', w.heap.size + 2]) (by repeat (first | with_reducible exact HU.out | with_reducible exact Upd.refl _ _ | with_reducible refine Upd.alloc ?_ _ | with_reducible refine Upd.drew ?_ | with_reducible refine Upd.setCell ?_ (by first | (simp; done) | (simp; omega)) _)) (by simp; omega), ?_⟩
    have h1 := own_upd (L := [w.heap.size]) HO.out ((Upd.refl _ _).setCell (p := ⟨w.heap.size, 0, none⟩) (by simp) (.slice (some ⟨g', 0, none⟩) 4 cap')) (by simp [Value.ownBlock]; omega)
    have h2 := own_set (own_set (own_set h1 6 (by omega) (.string f.now)) 7 (by omega) (.string f.sure)) 8 (by omega) (.bool f.put)
    exact own_upd (L := [w.heap.size + 1 + 1]) h2 ((((Upd.refl _ _).setCell (by simp) _).setCell (by simp) _).setCell (by simp) _) (by simp [Value.ownBlock]; omega)
  · go_wp2
    refine bodyPost_ret (v := .agg #[.slice (some ⟨g', 0, none⟩) 4 cap', .int .i64 x.room, .int .i64 x.fail]) (by simp [results, Try.results49, go_sem, hc2]) rfl ?_
    refine ⟨_, rfl, HU.out.trans' (L := []) (M := [w.heap.size, g', w.heap.size + 2]) (by repeat (first | with_reducible exact HU.out | with_reducible exact Upd.refl _ _ | with_reducible refine Upd.alloc ?_ _ | with_reducible refine Upd.drew ?_ | with_reducible refine Upd.setCell ?_ (by first | (simp; done) | (simp; omega)) _)) (by simp; omega), ?_⟩
    have h1 := own_upd (L := [w.heap.size]) HO.out ((Upd.refl _ _).setCell (p := ⟨w.heap.size, 0, none⟩) (by simp) (.slice (some ⟨g', 0, none⟩) 4 cap')) (by simp [Value.ownBlock]; omega)
    have h2 := own_set (own_set (own_set h1 9 (by omega) (.string f.now)) 10 (by omega) (.string f.sure)) 11 (by omega) (.bool f.put)
    exact own_upd (L := [w.heap.size + 1 + 1]) h2 ((((Upd.refl _ _).setCell (by simp) _).setCell (by simp) _).setCell (by simp) _) (by simp [Value.ownBlock]; omega)

theorem used_ref (x : DiskS) (l : Value) (w : World) (B : Nat) (hx : RefAt B w l x) (hs : x.small) :
    Calls Try.prog 53 #[.agg #[l, .int .i64 x.room, .int .i64 x.fail]] w fun e w' => e = .returned (.int .i64 (x.used : Int)) ∧ Upd [] w w' := by
  obtain ⟨g, cap, rfl, hg, hgl, hcap, hc, hz⟩ := own_cases hx (by omega)
  simp only [DiskS.rows] at hc
  obtain ⟨⟨s00, s01⟩, ⟨s10, s11⟩, ⟨s20, s21⟩, ⟨s30, s31⟩⟩ := hs
  have HX := Lib.hid hx
  clear hx
  go_enter Try.func53, Try.ntmps53
  go_wp2
  go_loopw [3, 9] (fun n i wr => ∃ (k : Int) (m : Nat), 0 ≤ k ∧ k ≤ 4 ∧ i = .int .i64 k ∧ n = .int .i64 m ∧ Hd (m ≤ k.toNat * 1099511627776) ∧ Hid (m = x.usedTo k) ∧ Upd [] w wr) (fun _ i _ => 4 - (intOf i).toNat)
  case atStart => exact ⟨0, 0, by omega, by omega, rfl, rfl, hd (by omega), rfl, (Upd.refl _ _).alloc _⟩
  case round =>
    obtain ⟨k, m, hk0, hk, rfl, rfl, hm, hH, hu⟩ := hrel
    have hcr : ∀ j, j < 4 * 3 → wr.cell? ⟨g, j, none⟩ = x.rows[j]? := fun j hj => by rw [(hu.below (B := w.heap.size) (Nat.le_refl _) (by simp)).cell (p := ⟨g, j, none⟩) hgl, hc j hj]; rfl
    simp only [DiskS.rows] at hcr
    have hu' := Lib.hid hu
    clear hu hc hz
    rcases (by omega : k = 0 ∨ k = 1 ∨ k = 2 ∨ k = 3 ∨ k = 4) with rfl | rfl | rfl | rfl | rfl
    · have hm' : m ≤ 0 * 1099511627776 := by simpa using hm.out
      have HM := hd hm'
      have hmb : m ≤ 5000000000000 := by omega
      clear hm'
      go_wp2
      all_goals
        have hm' := HM.out
        go_roundw
        case rel => exact ⟨1, m + x.f0.weight, by omega, by omega, rfl, by unfold FileS.weight; go_num, hd (by unfold FileS.weight; omega), by have := hH.out; simp [DiskS.usedTo] at this ⊢; subst this; rfl, hu'.out.trans ((Upd.refl _ _).alloc _)⟩
        case measure => simp [intOf]
    · have hm' : m ≤ 1 * 1099511627776 := by simpa using hm.out
      have HM := hd hm'
      have hmb : m ≤ 5000000000000 := by omega
      clear hm'
      go_wp2
      all_goals
        have hm' := HM.out
        go_roundw
        case rel => exact ⟨2, m + x.f1.weight, by omega, by omega, rfl, by unfold FileS.weight; go_num, hd (by unfold FileS.weight; omega), by have := hH.out; simp [DiskS.usedTo] at this ⊢; subst this; rfl, hu'.out.trans ((Upd.refl _ _).alloc _)⟩
        case measure => simp [intOf]
    · have hm' : m ≤ 2 * 1099511627776 := by simpa using hm.out
      have HM := hd hm'
      have hmb : m ≤ 5000000000000 := by omega
      clear hm'
      go_wp2
      all_goals
        have hm' := HM.out
        go_roundw
        case rel => exact ⟨3, m + x.f2.weight, by omega, by omega, rfl, by unfold FileS.weight; go_num, hd (by unfold FileS.weight; omega), by have := hH.out; simp [DiskS.usedTo] at this ⊢; subst this; rfl, hu'.out.trans ((Upd.refl _ _).alloc _)⟩
        case measure => simp [intOf]
    · have hm' : m ≤ 3 * 1099511627776 := by simpa using hm.out
      have HM := hd hm'
      have hmb : m ≤ 5000000000000 := by omega
      clear hm'
      go_wp2
      all_goals
        have hm' := HM.out
        go_roundw
        case rel => exact ⟨4, m + x.f3.weight, by omega, by omega, rfl, by unfold FileS.weight; go_num, hd (by unfold FileS.weight; omega), by have := hH.out; simp [DiskS.usedTo] at this ⊢; subst this; rfl, hu'.out.trans ((Upd.refl _ _).alloc _)⟩
        case measure => simp [intOf]
    · go_wp2
      go_ret
      exact ⟨ret_int (by have := hH.out; simp [DiskS.usedTo] at this; omega), hu'.out⟩
end Go.Proofs.Ytjaoiaknglnomaa
