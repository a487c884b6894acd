/-
  Package disk, walked: lay, Append, Put, Sync. Conditions: the strings of a disk are of at most 2^40 bytes each.
-/
import Derived.Test.YtjaoiaknglnomaaDisk1
set_option linter.unusedVariables false
namespace Go.Proofs.Ytjaoiaknglnomaa
open Go.RowKit

/-- What 'lay' answers. -/
def DiskS.layFits (d : DiskS) (i : Nat) (x : FileS) : Bool := decide (x.weight ≤ (d.get i).weight ∨ ((d.used + x.weight : Nat) : Int) - (d.get i).weight ≤ d.room)

theorem DiskS.layFits_no (d : DiskS) (i : Nat) (x : FileS) (nx ny : Nat) (ex : max x.now.size x.sure.size = nx) (ey : max (d.get i).now.size (d.get i).sure.size = ny) (hm : ny < nx) (hF : (d.room : Int) < d.used + (nx - ny)) : d.layFits i x = false := by
  simp only [layFits, FileS.weight, ex, ey, decide_eq_false_iff_not]; omega
theorem DiskS.layFits_yes (d : DiskS) (i : Nat) (x : FileS) (nx ny : Nat) (ex : max x.now.size x.sure.size = nx) (ey : max (d.get i).now.size (d.get i).sure.size = ny) (h : nx ≤ ny ∨ d.used + ((nx : Int) - ny) ≤ d.room) : d.layFits i x = true := by
  simp only [layFits, FileS.weight, ex, ey, decide_eq_true_iff]; omega
theorem DiskS.small.used {d : DiskS} (hs : d.small) : d.used ≤ 4398046511104 := by
  obtain ⟨⟨s00, s01⟩, ⟨s10, s11⟩, ⟨s20, s21⟩, ⟨s30, s31⟩⟩ := hs
  simp only [DiskS.used, FileS.weight]; omega

set_option maxHeartbeats 1000000 in
theorem lay_any (d : DiskS) (x : FileS) (f : Nat) (w : World) (b : Nat) (hd : DiskAt w b d) (hx : x.small) (hs : d.small) (hr : d.room ≤ 1099511627776) (hf : f < 4) :
    Calls Try.prog 60 #[.pointer (some ⟨b, 0, none⟩), .int .i64 f, .agg #[.string x.now, .string x.sure, .bool x.put]] w fun e w' =>
      (d.layFits f x = true ∧ e = .returned (.int .i64 0) ∧ Upd [b] w w' ∧ DiskAt w' b (d.set f x)) ∨ (d.layFits f x = false ∧ e = .returned (.int .i64 17) ∧ Upd [b] w w' ∧ DiskAt w' b d) := by
  have hlt := hd.lt
  have hs' := hs
  obtain ⟨⟨s00, s01⟩, ⟨s10, s11⟩, ⟨s20, s21⟩, ⟨s30, s31⟩⟩ := hs
  obtain ⟨x0, x1⟩ := hx
  have Hi : ∃ i, Hid (i = f) := ⟨f, rfl⟩
  obtain ⟨i, Hi⟩ := Hi
  rcases (by omega : f = 0 ∨ f = 1 ∨ f = 2 ∨ f = 3) with rfl | rfl | rfl | rfl
  all_goals
    go_enter Try.func60, Try.ntmps60
    go_wp2_with fail
    -- the first region
    have hW : Blk (w.alloc (.cells #[.string x.now, .string x.sure, .bool x.put] 89)) b d.cells 92 := hd.alloc _
    have hN : Blk (w.alloc (.cells #[.string x.now, .string x.sure, .bool x.put] 89)) w.heap.size #[.string x.now, .string x.sure, .bool x.put] 89 := Blk.new _ _ _
    have hU : Upd [b] w (w.alloc (.cells #[.string x.now, .string x.sure, .bool x.put] 89)) := (Upd.refl _ _).alloc _
    generalize w.alloc (.cells #[.string x.now, .string x.sure, .bool x.put] 89) = W at *
    have hc : ∀ (y : Later [] W) o, y.world.cell? ⟨b, o, none⟩ = d.cells[o]? := fun y => (y.blk hW (by simp)).cell
    have hn : ∀ (y : Later [] W) o, y.world.cell? ⟨w.heap.size, o, none⟩ = #[Value.string x.now, .string x.sure, .bool x.put][o]? := fun y => (y.blk hN (by simp)).cell
    simp only [DiskS.cells] at hc
    have HW := Lib.hid hW
    have HN := Lib.hid hN
    have HU := Lib.hid hU
    clear hW hN hU
    refine wp_region_later [] (by kernel_rfl) (by kernel_rfl) ?_
    repeat (go_big_quiet_step ((go_at_call 56; refine later_call (weight_any _ _ _ _ (by assumption) (by assumption)))))
    refine wpQuiet_nil ?_
    intro W1 hu
    have hW : Blk W1 b d.cells 92 := HW.out.upd hu (by simp)
    have hN : Blk W1 w.heap.size #[.string x.now, .string x.sure, .bool x.put] 89 := HN.out.upd hu (by simp)
    have hU : Upd [b] w W1 := HU.out.trans (hu.mono (by simp))
    clear HW HN HU hc hn hu W
    generalize ex : max x.now.size x.sure.size = nx
    generalize ey : (max (ByteArray.size _) _ : Nat) = ny
    have EX := Lib.hid ex
    have EY := Lib.hid ey
    have bx : nx ≤ 1099511627776 := by omega
    have by_ : ny ≤ 1099511627776 := by omega
    clear ex ey
    have hc : ∀ (y : Later [] W1) o, y.world.cell? ⟨b, o, none⟩ = d.cells[o]? := fun y => (y.blk hW (by simp)).cell
    have hn : ∀ (y : Later [] W1) o, y.world.cell? ⟨w.heap.size, o, none⟩ = #[Value.string x.now, .string x.sure, .bool x.put][o]? := fun y => (y.blk hN (by simp)).cell
    simp only [DiskS.cells] at hc
    have HW := Lib.hid hW
    have HN := Lib.hid hN
    have HU := Lib.hid hU
    clear hW hN hU
    have bu : d.used ≤ 4398046511104 := hs'.used
    by_cases hm : ny < nx
    · go_wp2_with fail
      refine wp_region_later [] (by kernel_rfl) (by kernel_rfl) ?_
      repeat (go_big_quiet_step ((go_at_call 24; refine later_call (used_any d _ b (Later.blk _ HW.out (by simp)) hs'))))
      refine wpQuiet_nil ?_
      intro W2 hu2
      by_cases hF : (d.room : Int) < d.used + (nx - ny)
      · have FT := Lib.hid (d.layFits_no i x nx ny EX.out (by rw [Hi.out]; exact EY.out) hm hF)
        go_wp2
        go_ret
        exact .inr ⟨Hi.out ▸ FT.out, rfl, HU.out.trans (hu2.mono (by simp)), HW.out.upd hu2 (by simp)⟩
      · have FT := Lib.hid (d.layFits_yes i x nx ny EX.out (by rw [Hi.out]; exact EY.out) (.inr (by omega)))
        go_wp2_with fail
        have hW : Blk W2 b d.cells 92 := HW.out.upd hu2 (by simp)
        have hN : Blk W2 w.heap.size #[.string x.now, .string x.sure, .bool x.put] 89 := HN.out.upd hu2 (by simp)
        have hU : Upd [b] w W2 := HU.out.trans (hu2.mono (by simp))
        clear HW HN HU hc hn hu2
        have hc := hW.cell
        have hn := hN.cell
        have hz := hW.frozen
        have hlW := hW.lt
        simp only [DiskS.cells] at hc
        have HW := Lib.hid hW
        have HU := Lib.hid hU
        clear hW hN hU
        go_region
        go_wp2
        go_ret
        exact .inl ⟨Hi.out ▸ FT.out, rfl, (((HU.out.drew).setCell (by simp) _).setCell (by simp) _).setCell (by simp) _, ((HW.out.drew.set _ _).set _ _).set _ _⟩
    · go_wp2_with fail
      refine wp_region_later [] (by kernel_rfl) (by kernel_rfl) ?_
      repeat (go_big_quiet_step (fail))
      refine wpQuiet_nil ?_
      intro W2 hu2
      have FT := Lib.hid (d.layFits_yes i x nx ny EX.out (by rw [Hi.out]; exact EY.out) (.inl (by omega)))
      go_wp2_with fail
      have hW : Blk W2 b d.cells 92 := HW.out.upd hu2 (by simp)
      have hN : Blk W2 w.heap.size #[.string x.now, .string x.sure, .bool x.put] 89 := HN.out.upd hu2 (by simp)
      have hU : Upd [b] w W2 := HU.out.trans (hu2.mono (by simp))
      clear HW HN HU hc hn hu2
      have hc := hW.cell
      have hn := hN.cell
      have hz := hW.frozen
      have hlW := hW.lt
      simp only [DiskS.cells] at hc
      have HW := Lib.hid hW
      have HU := Lib.hid hU
      clear hW hN hU
      go_region
      go_wp2
      go_ret
      exact .inl ⟨Hi.out ▸ FT.out, rfl, (((HU.out.drew).setCell (by simp) _).setCell (by simp) _).setCell (by simp) _, ((HW.out.drew.set _ _).set _ _).set _ _⟩
end Go.Proofs.Ytjaoiaknglnomaa
