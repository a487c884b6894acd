/-
  Package disk, walked: lay, Append, Put, Sync. Conditions: the strings of a disk are of at most 2^40 bytes each.
-/
import Derived.Test.YtjaoiaknglnomaaWm4
set_option linter.unusedVariables false
namespace Go.Proofs.Ytjaoiaknglnomaa
open Go.RowKit

/-- What 'lay' answers. -/
def DiskS.layFits (d : DiskS) (i : Nat) (x : FileS) : Bool := decide (x.weight ≤ (d.get i).weight ∨ ((d.used + x.weight : Nat) : Int) - (d.get i).weight ≤ d.room)

theorem DiskS.layFits_no (d : DiskS) (i : Nat) (x : FileS) (nx ny : Nat) (ex : max x.now.size x.sure.size = nx) (ey : max (d.get i).now.size (d.get i).sure.size = ny) (hm : ny < nx) (hF : (d.room : Int) < d.used + (nx - ny)) : d.layFits i x = false := by
  simp only [layFits, FileS.weight, ex, ey, decide_eq_false_iff_not]; omega
theorem DiskS.layFits_yes (d : DiskS) (i : Nat) (x : FileS) (nx ny : Nat) (ex : max x.now.size x.sure.size = nx) (ey : max (d.get i).now.size (d.get i).sure.size = ny) (h : nx ≤ ny ∨ d.used + ((nx : Int) - ny) ≤ d.room) : d.layFits i x = true := by
  simp only [layFits, FileS.weight, ex, ey, decide_eq_true_iff]; omega
theorem DiskS.small.used {d : DiskS} (hs : d.small) : d.used ≤ 4398046511104 := by
  obtain ⟨⟨s00, s01⟩, ⟨s10, s11⟩, ⟨s20, s21⟩, ⟨s30, s31⟩⟩ := hs
  simp only [DiskS.used, FileS.weight]; omega

set_option maxHeartbeats 1000000 in
theorem lay_any (d : DiskS) (x : FileS) (f : Nat) (w : World) (b : Nat) (hd : DiskAt w b d) (hx : x.small) (hs : d.small) (hr : d.room ≤ 1099511627776) (hf : f < 4) :
    Calls Try.prog 60 #[.pointer (some ⟨b, 0, none⟩), .int .i64 f, .agg #[.string x.now, .string x.sure, .bool x.put]] w fun e w' =>
      (d.layFits f x = true ∧ e = .returned (.int .i64 0) ∧ Upd [b] w w' ∧ DiskAt w' b (d.set f x)) ∨ (d.layFits f x = false ∧ e = .returned (.int .i64 17) ∧ Upd [b] w w' ∧ DiskAt w' b d) := by
  have hlt := hd.lt
  have hs' := hs
  obtain ⟨⟨s00, s01⟩, ⟨s10, s11⟩, ⟨s20, s21⟩, ⟨s30, s31⟩⟩ := hs
  obtain ⟨x0, x1⟩ := hx
  have Hi : ∃ i, Hid (i = f) := ⟨f, rfl⟩
  obtain ⟨i, Hi⟩ := Hi
  rcases (by omega : f = 0 ∨ f = 1 ∨ f = 2 ∨ f = 3) with rfl | rfl | rfl | rfl
  all_goals
    go_enter Try.func60, Try.ntmps60
    go_wp2_with fail
    -- the first region
    have hW : Blk (w.alloc (.cells #[.string x.now, .string x.sure, .bool x.put] 89)) b d.cells 92 := hd.alloc _
    have hN : Blk (w.alloc (.cells #[.string x.now, .string x.sure, .bool x.put] 89)) w.heap.size #[.string x.now, .string x.sure, .bool x.put] 89 := Blk.new _ _ _
    have hU : Upd [b] w (w.alloc (.cells #[.string x.now, .string x.sure, .bool x.put] 89)) := (Upd.refl _ _).alloc _
    generalize w.alloc (.cells #[.string x.now, .string x.sure, .bool x.put] 89) = W at *
    have hc : ∀ (y : Later [] W) o, y.world.cell? ⟨b, o, none⟩ = d.cells[o]? := fun y => (y.blk hW (by simp)).cell
    have hn : ∀ (y : Later [] W) o, y.world.cell? ⟨w.heap.size, o, none⟩ = #[Value.string x.now, .string x.sure, .bool x.put][o]? := fun y => (y.blk hN (by simp)).cell
    simp only [DiskS.cells] at hc
    have HW := Lib.hid hW
    have HN := Lib.hid hN
    have HU := Lib.hid hU
    clear hW hN hU
    refine wp_region_later [] (by kernel_rfl) (by kernel_rfl) ?_
    repeat (go_big_quiet_step ((go_at_call 56; refine later_call (weight_any _ _ _ _ (by assumption) (by assumption)))))
    refine wpQuiet_nil ?_
    intro W1 hu
    have hW : Blk W1 b d.cells 92 := HW.out.upd hu (by simp)
    have hN : Blk W1 w.heap.size #[.string x.now, .string x.sure, .bool x.put] 89 := HN.out.upd hu (by simp)
    have hU : Upd [b] w W1 := HU.out.trans (hu.mono (by simp))
    clear HW HN HU hc hn hu W
    generalize ex : max x.now.size x.sure.size = nx
    generalize ey : (max (ByteArray.size _) _ : Nat) = ny
    have EX := Lib.hid ex
    have EY := Lib.hid ey
    have bx : nx ≤ 1099511627776 := by omega
    have by_ : ny ≤ 1099511627776 := by omega
    clear ex ey
    have hc : ∀ (y : Later [] W1) o, y.world.cell? ⟨b, o, none⟩ = d.cells[o]? := fun y => (y.blk hW (by simp)).cell
    have hn : ∀ (y : Later [] W1) o, y.world.cell? ⟨w.heap.size, o, none⟩ = #[Value.string x.now, .string x.sure, .bool x.put][o]? := fun y => (y.blk hN (by simp)).cell
    simp only [DiskS.cells] at hc
    have HW := Lib.hid hW
    have HN := Lib.hid hN
    have HU := Lib.hid hU
    clear hW hN hU
    have bu : d.used ≤ 4398046511104 := hs'.used
    by_cases hm : ny < nx
    · go_wp2_with fail
      refine wp_region_later [] (by kernel_rfl) (by kernel_rfl) ?_
      repeat (go_big_quiet_step ((go_at_call 24; refine later_call (used_any d _ b (Later.blk _ HW.out (by simp)) hs'))))
      refine wpQuiet_nil ?_
      intro W2 hu2
      by_cases hF : (d.room : Int) < d.used + (nx - ny)
      · have FT := Lib.hid (d.layFits_no i x nx ny EX.out (by rw [Hi.out]; exact EY.out) hm hF)
        go_wp2
        go_ret
        exact .inr ⟨Hi.out ▸ FT.out, rfl, HU.out.trans (hu2.mono (by simp)), HW.out.upd hu2 (by simp)⟩
      · have FT := Lib.hid (d.layFits_yes i x nx ny EX.out (by rw [Hi.out]; exact EY.out) (.inr (by omega)))
        go_wp2_with fail
        have hW : Blk W2 b d.cells 92 := HW.out.upd hu2 (by simp)
        have hN : Blk W2 w.heap.size #[.string x.now, .string x.sure, .bool x.put] 89 := HN.out.upd hu2 (by simp)
        have hU : Upd [b] w W2 := HU.out.trans (hu2.mono (by simp))
        clear HW HN HU hc hn hu2
        have hc := hW.cell
        have hn := hN.cell
        have hz := hW.frozen
        have hlW := hW.lt
        simp only [DiskS.cells] at hc
        have HW := Lib.hid hW
        have HU := Lib.hid hU
        clear hW hN hU
        go_region
        go_wp2
        go_ret
        exact .inl ⟨Hi.out ▸ FT.out, rfl, (((HU.out.drew).setCell (by simp) _).setCell (by simp) _).setCell (by simp) _, ((HW.out.drew.set _ _).set _ _).set _ _⟩
    · go_wp2_with fail
      refine wp_region_later [] (by kernel_rfl) (by kernel_rfl) ?_
      repeat (go_big_quiet_step (fail))
      refine wpQuiet_nil ?_
      intro W2 hu2
      have FT := Lib.hid (d.layFits_yes i x nx ny EX.out (by rw [Hi.out]; exact EY.out) (.inl (by omega)))
      go_wp2_with fail
      have hW : Blk W2 b d.cells 92 := HW.out.upd hu2 (by simp)
      have hN : Blk W2 w.heap.size #[.string x.now, .string x.sure, .bool x.put] 89 := HN.out.upd hu2 (by simp)
      have hU : Upd [b] w W2 := HU.out.trans (hu2.mono (by simp))
      clear HW HN HU hc hn hu2
      have hc := hW.cell
      have hn := hN.cell
      have hz := hW.frozen
      have hlW := hW.lt
      simp only [DiskS.cells] at hc
      have HW := Lib.hid hW
      have HU := Lib.hid hU
      clear hW hN hU
      go_region
      go_wp2
      go_ret
      exact .inl ⟨Hi.out ▸ FT.out, rfl, (((HU.out.drew).setCell (by simp) _).setCell (by simp) _).setCell (by simp) _, ((HW.out.drew.set _ _).set _ _).set _ _⟩
end Go.Proofs.Ytjaoiaknglnomaa

/-
  Package disk, walked: Put, Append, Sync, Read, Sure, Fail, New. Conditions: the strings of a disk, and what comes in, are of at most 2^40 bytes each.
-/
set_option linter.unusedVariables false
namespace Go.Proofs.Ytjaoiaknglnomaa
open Go.RowKit

def DiskS.tried (d : DiskS) (f : Int) : DiskS := { d with fail := (tryRes d.fail f).2 }
def DiskS.laid (d : DiskS) (i : Nat) (x : FileS) : Int × DiskS := if d.layFits i x then (0, d.set i x) else (17, d)
/-- What Put answers, and leaves. -/
def DiskS.putIt (d : DiskS) (f : Int) (s : ByteArray) : Int × DiskS :=
  if (tryRes d.fail f).1 = 0 then (d.tried f).laid f.toNat ⟨s, (d.get f.toNat).sure, true⟩ else ((tryRes d.fail f).1, d.tried f)
def DiskS.appendIt (d : DiskS) (f : Int) (s : ByteArray) : Int × DiskS :=
  if (tryRes d.fail f).1 = 0 then (d.tried f).laid f.toNat ⟨(d.get f.toNat).now ++ s, (d.get f.toNat).sure, (d.get f.toNat).put⟩ else ((tryRes d.fail f).1, d.tried f)
def DiskS.syncIt (d : DiskS) (f : Int) : Int × DiskS :=
  if (tryRes d.fail f).1 = 0 then (0, (d.tried f).set f.toNat ⟨(d.get f.toNat).now, (d.get f.toNat).now, false⟩) else ((tryRes d.fail f).1, d.tried f)

theorem tryRes_zero {fail f : Int} (h : (tryRes fail f).1 = 0) : 0 ≤ f ∧ f < 4 := by
  unfold tryRes at h
  by_cases hc : 0 ≤ f ∧ f < 4
  · exact hc
  · rw [if_neg hc] at h; simp at h
theorem tryRes_range (fail f : Int) : (tryRes fail f).1 = 0 ∨ (tryRes fail f).1 = 1 ∨ (tryRes fail f).1 = 8 := by
  unfold tryRes; split
  · split
    · simp
    · split <;> simp
  · simp

/-- A disk as it may be. -/
structure DiskS.fine (d : DiskS) : Prop where
  small : d.small
  room : d.room ≤ 1099511627776
  fail0 : 0 ≤ d.fail
  fail1 : d.fail ≤ 1073741825

theorem DiskS.fine.tried {d : DiskS} (h : d.fine) (f : Int) : (d.tried f).fine := by
  obtain ⟨h1, h2, h3, h4⟩ := h
  refine ⟨h1, h2, ?_, ?_⟩
  all_goals
    simp only [DiskS.tried, tryRes]
    split
    · split
      · simp
      · split <;> simp <;> omega
    · assumption

theorem DiskS.get_small {d : DiskS} (h : d.small) (i : Nat) : (d.get i).small := by
  obtain ⟨h0, h1, h2, h3⟩ := h
  match i with
  | 0 => exact h0
  | 1 => exact h1
  | 2 => exact h2
  | _ + 3 => exact h3

theorem lay_fun (d : DiskS) (x : FileS) (f : Nat) (w : World) (b : Nat) (hd : DiskAt w b d) (hx : x.small) (hs : d.small) (hr : d.room ≤ 1099511627776) (hf : f < 4) :
    Calls Try.prog 60 #[.pointer (some ⟨b, 0, none⟩), .int .i64 f, .agg #[.string x.now, .string x.sure, .bool x.put]] w fun e w' =>
      e = .returned (.int .i64 (d.laid f x).1) ∧ Upd [b] w w' ∧ DiskAt w' b (d.laid f x).2 := by
  refine (lay_any d x f w b hd hx hs hr hf).mono ?_
  rintro e w' (⟨h, rfl, hu, hd⟩ | ⟨h, rfl, hu, hd⟩) <;> simp only [DiskS.laid, h] <;> exact ⟨rfl, hu, hd⟩

set_option maxHeartbeats 1000000 in
theorem put_any (d : DiskS) (f : Int) (s : ByteArray) (w : World) (b : Nat) (hd : DiskAt w b d) (hfi : d.fine) (hs : s.size ≤ 1099511627776) :
    Calls Try.prog 30 #[.pointer (some ⟨b, 0, none⟩), .int .i64 f, .string s] w fun e w' =>
      e = .returned (.int .i64 (d.putIt f s).1) ∧ Upd [b] w w' ∧ DiskAt w' b (d.putIt f s).2 := by
  have hlt := hd.lt
  have ht := tryRes_range d.fail f
  have hft := hfi.tried f
  by_cases h0 : (tryRes d.fail f).1 = 0
  · have hf := tryRes_zero h0
    have hR : d.putIt f s = (d.tried f).laid f.toNat ⟨s, (d.get f.toNat).sure, true⟩ := by simp [DiskS.putIt, h0]
    have HR := Lib.hid hR
    clear hR
    have H0 := Lib.hid h0
    clear ht h0
    go_enter Try.func30, Try.ntmps30
    go_wp2_with fail
    refine (try_any d f _ b hd (by have := hfi.fail0; omega) (by have := hfi.fail1; omega)).mono ?_
    rintro e w1 ⟨rfl, hu1, hd1⟩
    rw [H0.out]
    have HU := Lib.hid hu1
    have hl1 := hd1.lt
    clear hu1
    obtain ⟨i, rfl⟩ : ∃ i : Nat, f = i := ⟨f.toNat, by omega⟩
    rcases (by omega : i = 0 ∨ i = 1 ∨ i = 2 ∨ i = 3) with rfl | rfl | rfl | rfl
    · have hc := hd1.cell
      have hz := hd1.frozen
      simp only [DiskS.cells] at hc
      go_wp2_with fail
      refine (lay_fun (d.tried 0) ⟨s, d.f0.sure, true⟩ 0 _ b (by repeat (first | with_reducible exact hd1 | with_reducible refine Blk.alloc ?_ _ | with_reducible refine Blk.drew ?_ | with_reducible refine Blk.set_other ?_ (by first | (simp; done) | (simp; omega)) _ | exact hd1)) ⟨hs, (DiskS.get_small hfi.small 0).2⟩ hft.small hft.room (by omega)).mono ?_
      rintro e w2 ⟨rfl, hu2, hd2⟩
      go_wp2
      go_ret
      rw [HR.out]
      exact ⟨rfl, (HU.out.trans (by repeat (first | with_reducible exact hu2 | with_reducible exact Upd.refl _ _ | with_reducible refine Upd.alloc ?_ _ | with_reducible refine Upd.drew ?_ | with_reducible refine Upd.setCell ?_ (by first | (simp; done) | (simp; omega)) _))).trans hu2, hd2⟩
    · have hc := hd1.cell
      have hz := hd1.frozen
      simp only [DiskS.cells] at hc
      go_wp2_with fail
      refine (lay_fun (d.tried 1) ⟨s, d.f1.sure, true⟩ 1 _ b (by repeat (first | with_reducible exact hd1 | with_reducible refine Blk.alloc ?_ _ | with_reducible refine Blk.drew ?_ | with_reducible refine Blk.set_other ?_ (by first | (simp; done) | (simp; omega)) _ | exact hd1)) ⟨hs, (DiskS.get_small hfi.small 1).2⟩ hft.small hft.room (by omega)).mono ?_
      rintro e w2 ⟨rfl, hu2, hd2⟩
      go_wp2
      go_ret
      rw [HR.out]
      exact ⟨rfl, (HU.out.trans (by repeat (first | with_reducible exact hu2 | with_reducible exact Upd.refl _ _ | with_reducible refine Upd.alloc ?_ _ | with_reducible refine Upd.drew ?_ | with_reducible refine Upd.setCell ?_ (by first | (simp; done) | (simp; omega)) _))).trans hu2, hd2⟩
    · have hc := hd1.cell
      have hz := hd1.frozen
      simp only [DiskS.cells] at hc
      go_wp2_with fail
      refine (lay_fun (d.tried 2) ⟨s, d.f2.sure, true⟩ 2 _ b (by repeat (first | with_reducible exact hd1 | with_reducible refine Blk.alloc ?_ _ | with_reducible refine Blk.drew ?_ | with_reducible refine Blk.set_other ?_ (by first | (simp; done) | (simp; omega)) _ | exact hd1)) ⟨hs, (DiskS.get_small hfi.small 2).2⟩ hft.small hft.room (by omega)).mono ?_
      rintro e w2 ⟨rfl, hu2, hd2⟩
      go_wp2
      go_ret
      rw [HR.out]
      exact ⟨rfl, (HU.out.trans (by repeat (first | with_reducible exact hu2 | with_reducible exact Upd.refl _ _ | with_reducible refine Upd.alloc ?_ _ | with_reducible refine Upd.drew ?_ | with_reducible refine Upd.setCell ?_ (by first | (simp; done) | (simp; omega)) _))).trans hu2, hd2⟩
    · have hc := hd1.cell
      have hz := hd1.frozen
      simp only [DiskS.cells] at hc
      go_wp2_with fail
      refine (lay_fun (d.tried 3) ⟨s, d.f3.sure, true⟩ 3 _ b (by repeat (first | with_reducible exact hd1 | with_reducible refine Blk.alloc ?_ _ | with_reducible refine Blk.drew ?_ | with_reducible refine Blk.set_other ?_ (by first | (simp; done) | (simp; omega)) _ | exact hd1)) ⟨hs, (DiskS.get_small hfi.small 3).2⟩ hft.small hft.room (by omega)).mono ?_
      rintro e w2 ⟨rfl, hu2, hd2⟩
      go_wp2
      go_ret
      rw [HR.out]
      exact ⟨rfl, (HU.out.trans (by repeat (first | with_reducible exact hu2 | with_reducible exact Upd.refl _ _ | with_reducible refine Upd.alloc ?_ _ | with_reducible refine Upd.drew ?_ | with_reducible refine Upd.setCell ?_ (by first | (simp; done) | (simp; omega)) _))).trans hu2, hd2⟩
  · have hR : d.putIt f s = ((tryRes d.fail f).1, d.tried f) := by simp [DiskS.putIt, h0]
    have HR := Lib.hid hR
    clear hR
    go_enter Try.func30, Try.ntmps30
    go_wp2_with fail
    refine (try_any d f _ b hd (by have := hfi.fail0; omega) (by have := hfi.fail1; omega)).mono ?_
    rintro e w1 ⟨rfl, hu1, hd1⟩
    have hne : ((tryRes d.fail f).1 != 0) = true := by simpa using h0
    clear h0 ht
    go_wp2
    go_ret
    rw [HR.out]
    exact ⟨rfl, hu1, hd1⟩
set_option maxHeartbeats 1000000 in
theorem append_any (d : DiskS) (f : Int) (s : ByteArray) (w : World) (b : Nat) (hd : DiskAt w b d) (hfi : d.fine) (hs : (d.get f.toNat).now.size + s.size ≤ 1099511627776) :
    Calls Try.prog 40 #[.pointer (some ⟨b, 0, none⟩), .int .i64 f, .string s] w fun e w' =>
      e = .returned (.int .i64 (d.appendIt f s).1) ∧ Upd [b] w w' ∧ DiskAt w' b (d.appendIt f s).2 := by
  have hlt := hd.lt
  have ht := tryRes_range d.fail f
  have hft := hfi.tried f
  by_cases h0 : (tryRes d.fail f).1 = 0
  · have hf := tryRes_zero h0
    have hR : d.appendIt f s = (d.tried f).laid f.toNat ⟨(d.get f.toNat).now ++ s, (d.get f.toNat).sure, (d.get f.toNat).put⟩ := by simp [DiskS.appendIt, h0]
    have HR := Lib.hid hR
    clear hR
    have H0 := Lib.hid h0
    clear ht h0
    go_enter Try.func40, Try.ntmps40
    go_wp2_with fail
    refine (try_any d f _ b hd (by have := hfi.fail0; omega) (by have := hfi.fail1; omega)).mono ?_
    rintro e w1 ⟨rfl, hu1, hd1⟩
    rw [H0.out]
    have HU := Lib.hid hu1
    have hl1 := hd1.lt
    clear hu1
    obtain ⟨i, rfl⟩ : ∃ i : Nat, f = i := ⟨f.toNat, by omega⟩
    rcases (by omega : i = 0 ∨ i = 1 ∨ i = 2 ∨ i = 3) with rfl | rfl | rfl | rfl
    · have hc := hd1.cell
      have hz := hd1.frozen
      simp only [DiskS.cells] at hc
      have hs' : d.f0.now.size + s.size ≤ 1099511627776 := hs
      go_wp2_with fail
      refine (lay_fun (d.tried 0) ⟨d.f0.now ++ s, d.f0.sure, d.f0.put⟩ 0 _ b (by repeat (first | with_reducible exact hd1 | with_reducible refine Blk.alloc ?_ _ | with_reducible refine Blk.drew ?_ | with_reducible refine Blk.set_other ?_ (by first | (simp; done) | (simp; omega)) _ | exact hd1)) ⟨by simpa using hs', (DiskS.get_small hfi.small 0).2⟩ hft.small hft.room (by omega)).mono ?_
      rintro e w2 ⟨rfl, hu2, hd2⟩
      go_wp2
      go_ret
      rw [HR.out]
      exact ⟨rfl, (HU.out.trans (by repeat (first | with_reducible exact hu2 | with_reducible exact Upd.refl _ _ | with_reducible refine Upd.alloc ?_ _ | with_reducible refine Upd.drew ?_ | with_reducible refine Upd.setCell ?_ (by first | (simp; done) | (simp; omega)) _))).trans hu2, hd2⟩
    · have hc := hd1.cell
      have hz := hd1.frozen
      simp only [DiskS.cells] at hc
      have hs' : d.f1.now.size + s.size ≤ 1099511627776 := hs
      go_wp2_with fail
      refine (lay_fun (d.tried 1) ⟨d.f1.now ++ s, d.f1.sure, d.f1.put⟩ 1 _ b (by repeat (first | with_reducible exact hd1 | with_reducible refine Blk.alloc ?_ _ | with_reducible refine Blk.drew ?_ | with_reducible refine Blk.set_other ?_ (by first | (simp; done) | (simp; omega)) _ | exact hd1)) ⟨by simpa using hs', (DiskS.get_small hfi.small 1).2⟩ hft.small hft.room (by omega)).mono ?_
      rintro e w2 ⟨rfl, hu2, hd2⟩
      go_wp2
      go_ret
      rw [HR.out]
      exact ⟨rfl, (HU.out.trans (by repeat (first | with_reducible exact hu2 | with_reducible exact Upd.refl _ _ | with_reducible refine Upd.alloc ?_ _ | with_reducible refine Upd.drew ?_ | with_reducible refine Upd.setCell ?_ (by first | (simp; done) | (simp; omega)) _))).trans hu2, hd2⟩
    · have hc := hd1.cell
      have hz := hd1.frozen
      simp only [DiskS.cells] at hc
      have hs' : d.f2.now.size + s.size ≤ 1099511627776 := hs
      go_wp2_with fail
      refine (lay_fun (d.tried 2) ⟨d.f2.now ++ s, d.f2.sure, d.f2.put⟩ 2 _ b (by repeat (first | with_reducible exact hd1 | with_reducible refine Blk.alloc ?_ _ | with_reducible refine Blk.drew ?_ | with_reducible refine Blk.set_other ?_ (by first | (simp; done) | (simp; omega)) _ | exact hd1)) ⟨by simpa using hs', (DiskS.get_small hfi.small 2).2⟩ hft.small hft.room (by omega)).mono ?_
      rintro e w2 ⟨rfl, hu2, hd2⟩
      go_wp2
      go_ret
      rw [HR.out]
      exact ⟨rfl, (HU.out.trans (by repeat (first | with_reducible exact hu2 | with_reducible exact Upd.refl _ _ | with_reducible refine Upd.alloc ?_ _ | with_reducible refine Upd.drew ?_ | with_reducible refine Upd.setCell ?_ (by first | (simp; done) | (simp; omega)) _))).trans hu2, hd2⟩
    · have hc := hd1.cell
      have hz := hd1.frozen
      simp only [DiskS.cells] at hc
      have hs' : d.f3.now.size + s.size ≤ 1099511627776 := hs
      go_wp2_with fail
      refine (lay_fun (d.tried 3) ⟨d.f3.now ++ s, d.f3.sure, d.f3.put⟩ 3 _ b (by repeat (first | with_reducible exact hd1 | with_reducible refine Blk.alloc ?_ _ | with_reducible refine Blk.drew ?_ | with_reducible refine Blk.set_other ?_ (by first | (simp; done) | (simp; omega)) _ | exact hd1)) ⟨by simpa using hs', (DiskS.get_small hfi.small 3).2⟩ hft.small hft.room (by omega)).mono ?_
      rintro e w2 ⟨rfl, hu2, hd2⟩
      go_wp2
      go_ret
      rw [HR.out]
      exact ⟨rfl, (HU.out.trans (by repeat (first | with_reducible exact hu2 | with_reducible exact Upd.refl _ _ | with_reducible refine Upd.alloc ?_ _ | with_reducible refine Upd.drew ?_ | with_reducible refine Upd.setCell ?_ (by first | (simp; done) | (simp; omega)) _))).trans hu2, hd2⟩
  · have hR : d.appendIt f s = ((tryRes d.fail f).1, d.tried f) := by simp [DiskS.appendIt, h0]
    have HR := Lib.hid hR
    clear hR
    go_enter Try.func40, Try.ntmps40
    go_wp2_with fail
    refine (try_any d f _ b hd (by have := hfi.fail0; omega) (by have := hfi.fail1; omega)).mono ?_
    rintro e w1 ⟨rfl, hu1, hd1⟩
    have hne : ((tryRes d.fail f).1 != 0) = true := by simpa using h0
    clear h0 ht
    go_wp2
    go_ret
    rw [HR.out]
    exact ⟨rfl, hu1, hd1⟩

set_option maxHeartbeats 1000000 in
theorem sync_any (d : DiskS) (f : Int) (w : World) (b : Nat) (hd : DiskAt w b d) (hfi : d.fine) :
    Calls Try.prog 19 #[.pointer (some ⟨b, 0, none⟩), .int .i64 f] w fun e w' =>
      e = .returned (.int .i64 (d.syncIt f).1) ∧ Upd [b] w w' ∧ DiskAt w' b (d.syncIt f).2 := by
  have hlt := hd.lt
  have ht := tryRes_range d.fail f
  by_cases h0 : (tryRes d.fail f).1 = 0
  · have hf := tryRes_zero h0
    have hR : d.syncIt f = (0, (d.tried f).set f.toNat ⟨(d.get f.toNat).now, (d.get f.toNat).now, false⟩) := by simp [DiskS.syncIt, h0]
    have HR := Lib.hid hR
    clear hR
    have H0 := Lib.hid h0
    clear ht h0
    go_enter Try.func19, Try.ntmps19
    go_wp2_with fail
    refine (try_any d f _ b hd (by have := hfi.fail0; omega) (by have := hfi.fail1; omega)).mono ?_
    rintro e w1 ⟨rfl, hu1, hd1⟩
    rw [H0.out]
    have HU := Lib.hid hu1
    have hl1 := hd1.lt
    clear hu1
    obtain ⟨i, rfl⟩ : ∃ i : Nat, f = i := ⟨f.toNat, by omega⟩
    rcases (by omega : i = 0 ∨ i = 1 ∨ i = 2 ∨ i = 3) with rfl | rfl | rfl | rfl
    · have hc := hd1.cell
      have hz := hd1.frozen
      simp only [DiskS.cells] at hc
      go_wp2_with fail
      refine (settle_any (d.tried 0) 0 d.f0.now _ b (by repeat (first | with_reducible exact hd1 | with_reducible refine Blk.alloc ?_ _ | with_reducible refine Blk.drew ?_ | with_reducible refine Blk.set_other ?_ (by first | (simp; done) | (simp; omega)) _ | exact hd1)) (by omega)).mono ?_
      rintro e w2 ⟨rfl, hu2, hd2⟩
      go_wp2
      go_ret
      rw [HR.out]
      exact ⟨rfl, (HU.out.trans (by repeat (first | with_reducible exact hu2 | with_reducible exact Upd.refl _ _ | with_reducible refine Upd.alloc ?_ _ | with_reducible refine Upd.drew ?_ | with_reducible refine Upd.setCell ?_ (by first | (simp; done) | (simp; omega)) _))).trans hu2, hd2⟩
    · have hc := hd1.cell
      have hz := hd1.frozen
      simp only [DiskS.cells] at hc
      go_wp2_with fail
      refine (settle_any (d.tried 1) 1 d.f1.now _ b (by repeat (first | with_reducible exact hd1 | with_reducible refine Blk.alloc ?_ _ | with_reducible refine Blk.drew ?_ | with_reducible refine Blk.set_other ?_ (by first | (simp; done) | (simp; omega)) _ | exact hd1)) (by omega)).mono ?_
      rintro e w2 ⟨rfl, hu2, hd2⟩
      go_wp2
      go_ret
      rw [HR.out]
      exact ⟨rfl, (HU.out.trans (by repeat (first | with_reducible exact hu2 | with_reducible exact Upd.refl _ _ | with_reducible refine Upd.alloc ?_ _ | with_reducible refine Upd.drew ?_ | with_reducible refine Upd.setCell ?_ (by first | (simp; done) | (simp; omega)) _))).trans hu2, hd2⟩
    · have hc := hd1.cell
      have hz := hd1.frozen
      simp only [DiskS.cells] at hc
      go_wp2_with fail
      refine (settle_any (d.tried 2) 2 d.f2.now _ b (by repeat (first | with_reducible exact hd1 | with_reducible refine Blk.alloc ?_ _ | with_reducible refine Blk.drew ?_ | with_reducible refine Blk.set_other ?_ (by first | (simp; done) | (simp; omega)) _ | exact hd1)) (by omega)).mono ?_
      rintro e w2 ⟨rfl, hu2, hd2⟩
      go_wp2
      go_ret
      rw [HR.out]
      exact ⟨rfl, (HU.out.trans (by repeat (first | with_reducible exact hu2 | with_reducible exact Upd.refl _ _ | with_reducible refine Upd.alloc ?_ _ | with_reducible refine Upd.drew ?_ | with_reducible refine Upd.setCell ?_ (by first | (simp; done) | (simp; omega)) _))).trans hu2, hd2⟩
    · have hc := hd1.cell
      have hz := hd1.frozen
      simp only [DiskS.cells] at hc
      go_wp2_with fail
      refine (settle_any (d.tried 3) 3 d.f3.now _ b (by repeat (first | with_reducible exact hd1 | with_reducible refine Blk.alloc ?_ _ | with_reducible refine Blk.drew ?_ | with_reducible refine Blk.set_other ?_ (by first | (simp; done) | (simp; omega)) _ | exact hd1)) (by omega)).mono ?_
      rintro e w2 ⟨rfl, hu2, hd2⟩
      go_wp2
      go_ret
      rw [HR.out]
      exact ⟨rfl, (HU.out.trans (by repeat (first | with_reducible exact hu2 | with_reducible exact Upd.refl _ _ | with_reducible refine Upd.alloc ?_ _ | with_reducible refine Upd.drew ?_ | with_reducible refine Upd.setCell ?_ (by first | (simp; done) | (simp; omega)) _))).trans hu2, hd2⟩
  · have hR : d.syncIt f = ((tryRes d.fail f).1, d.tried f) := by simp [DiskS.syncIt, h0]
    have HR := Lib.hid hR
    clear hR
    go_enter Try.func19, Try.ntmps19
    go_wp2_with fail
    refine (try_any d f _ b hd (by have := hfi.fail0; omega) (by have := hfi.fail1; omega)).mono ?_
    rintro e w1 ⟨rfl, hu1, hd1⟩
    have hne : ((tryRes d.fail f).1 == 0) = false := by simpa using h0
    clear h0 ht
    go_wp2
    go_ret
    rw [HR.out]
    exact ⟨rfl, hu1, hd1⟩

def DiskS.readIt (d : DiskS) (f : Int) : ByteArray × Int := if 0 ≤ f ∧ f < 4 then ((d.get f.toNat).now, 0) else (⟨#[]⟩, 1)
def DiskS.sureIt (d : DiskS) (f : Int) : Bool := if 0 ≤ f ∧ f < 4 then (d.get f.toNat).now.toList == (d.get f.toNat).sure.toList else false

set_option maxHeartbeats 1000000 in
theorem read_any (d : DiskS) (f : Int) (w : World) (b : Nat) (hd : DiskAt w b d) :
    Calls Try.prog 20 #[.pointer (some ⟨b, 0, none⟩), .int .i64 f] w fun e w' =>
      e = .returned (.tuple #[.string (d.readIt f).1, .int .i64 (d.readIt f).2]) ∧ Upd [] w w' := by
  have hlt := hd.lt
  have hc := hd.cell
  simp only [DiskS.cells] at hc
  clear hd
  by_cases hf : 0 ≤ f ∧ f < 4
  · obtain ⟨i, rfl⟩ : ∃ i : Nat, f = i := ⟨f.toNat, by omega⟩
    rcases (by omega : i = 0 ∨ i = 1 ∨ i = 2 ∨ i = 3) with rfl | rfl | rfl | rfl
    all_goals
      clear hf
      go_enter Try.func20, Try.ntmps20
      go_wp2_with ((with_reducible refine (has_any _ _).mono ?_); rintro e w' ⟨rfl, rfl⟩)
      go_ret2
      exact ⟨rfl, Upd.refl _ _⟩
  · have hr : d.readIt f = (⟨#[]⟩, 1) := by simp [DiskS.readIt, hf]
    have HR := Lib.hid hr
    clear hr
    have hne : decide (0 ≤ f ∧ f < 4) = false := by simpa using hf
    go_enter Try.func20, Try.ntmps20
    go_wp2_with ((with_reducible refine (has_any _ _).mono ?_); rintro e w' ⟨rfl, rfl⟩)
    go_ret2
    rw [HR.out]
    exact ⟨rfl, Upd.refl _ _⟩
end Go.Proofs.Ytjaoiaknglnomaa

/-
  Package disk, walked: Sure, Fail, New, left. Conditions: the strings of a disk are of at most 2^40 bytes each; what is for sure of a file that was not put is the beginning of what it has.
-/
set_option linter.unusedVariables false
namespace Go.Proofs.Ytjaoiaknglnomaa
open Go.RowKit

theorem sure_any (d : DiskS) (f : Int) (w : World) (b : Nat) (hd : DiskAt w b d) :
    Calls Try.prog 23 #[.pointer (some ⟨b, 0, none⟩), .int .i64 f] w fun e w' =>
      e = .returned (.bool (d.sureIt f)) ∧ Upd [] w w' := by
  have hlt := hd.lt
  by_cases hf : 0 ≤ f ∧ f < 4
  · have hr : d.sureIt f = ((d.get f.toNat).now.toList == (d.get f.toNat).sure.toList) := by simp [DiskS.sureIt, hf]
    have HR := Lib.hid hr
    clear hr
    obtain ⟨i, rfl⟩ : ∃ i : Nat, f = i := ⟨f.toNat, by omega⟩
    rcases (by omega : i = 0 ∨ i = 1 ∨ i = 2 ∨ i = 3) with rfl | rfl | rfl | rfl
    all_goals
      clear hf
      have hc := hd.cell
      simp only [DiskS.cells] at hc
      go_enter Try.func23, Try.ntmps23
      go_wp2_with fail
      refine (has_any _ _).mono ?_
      rintro e w' ⟨rfl, rfl⟩
      go_wp2_with fail
      refine (safe_any _ _ _ _).mono ?_
      rintro e w2 ⟨rfl, hu2⟩
      go_wp2
      go_ret
      exact ⟨ret_bool HR.out.symm, hu2⟩
  · have hr : d.sureIt f = false := by simp [DiskS.sureIt, hf]
    have HR := Lib.hid hr
    clear hr
    have hne : decide (0 ≤ f ∧ f < 4) = false := by simpa using hf
    go_enter Try.func23, Try.ntmps23
    go_wp2_with fail
    refine (has_any _ _).mono ?_
    rintro e w' ⟨rfl, rfl⟩
    rw [hne]
    go_wp2
    go_ret
    rw [HR.out]
    exact ⟨rfl, Upd.refl _ _⟩

theorem fail_any (d : DiskS) (n : Int) (w : World) (b : Nat) (hd : DiskAt w b d) :
    Calls Try.prog 18 #[.pointer (some ⟨b, 0, none⟩), .int .i64 n] w fun e w' =>
      e = .returned (.tuple #[]) ∧ Upd [b] w w' ∧ DiskAt w' b { d with fail := max (min n 1073741824) (-1) + 1 } := by
  have hlt := hd.lt
  have hc := hd.cell
  have hz := hd.frozen
  simp only [DiskS.cells] at hc
  have HD := Lib.hid hd
  clear hd
  go_enter Try.func18, Try.ntmps18
  go_wp2
  all_goals
    go_end0
    have hh : ∀ v : Int, v = max (min n 1073741824) (-1) + 1 → DiskAt (w.setCell ⟨b, 13, none⟩ (.int .i64 v)) b { d with fail := max (min n 1073741824) (-1) + 1 } := by
      rintro _ rfl
      exact HD.out.set 13 _
    exact ⟨rfl, (Upd.refl _ _).setCell (by simp) _, hh _ (by omega)⟩

theorem new_any (r : Int) (w : World) :
    Calls Try.prog 15 #[.int .i64 r] w fun e w' => ∃ b, e = .returned (.pointer (some ⟨b, 0, none⟩)) ∧ w.heap.size ≤ b ∧ Upd [] w w' ∧
      DiskAt w' b ⟨⟨⟨#[]⟩, ⟨#[]⟩, false⟩, ⟨⟨#[]⟩, ⟨#[]⟩, false⟩, ⟨⟨#[]⟩, ⟨#[]⟩, false⟩, ⟨⟨#[]⟩, ⟨#[]⟩, false⟩, max r 0, 0⟩ := by
  go_enter Try.func15, Try.ntmps15
  go_wp2
  all_goals
    go_ret
    refine ⟨_, rfl, Nat.le_refl _, (Upd.refl _ _).alloc _, ?_⟩
  · rw [show max r 0 = 0 by omega]; exact Blk.new w _ _
  · rw [show max r 0 = r by omega]; exact Blk.new w _ _

theorem ret_str {a b : ByteArray} (h : a = b) : Ending.returned (.string a) = .returned (.string b) := by rw [h]

/-- How many ways there are to lose. -/
def FileS.ways (f : FileS) : Int := if f.put then f.now.size + 2 else (f.now.size : Int) - f.sure.size + 1
def FileS.left (f : FileS) (c : Int) : ByteArray :=
  if f.put then (if c % f.ways = 0 then f.sure else f.now.extract 0 (c % f.ways - 1).toNat) else f.now.extract 0 (f.sure.size + c % f.ways).toNat

/-- Go's way to bring a number into a range. -/
theorem tmod_range (c W : Int) (h0 : 1 ≤ W) (h1 : W ≤ 4611686018427387904) : (wrap64 (c.tmod W + W)).tmod W = c % W := by
  have h2 : -W < c.tmod W := by
    rcases Int.lt_or_le c 0 with h | h
    · have := Int.neg_tmod (-c) W; rw [Int.neg_neg] at this; rw [this]
      have := Int.tmod_lt_of_pos (-c) (b := W) (by omega); omega
    · have := Int.tmod_nonneg W h; omega
  have h3 : c.tmod W < W := Int.tmod_lt_of_pos c (by omega)
  rw [show wrap64 (c.tmod W + W) = c.tmod W + W by unfold wrap64; omega]
  rw [Int.tmod_eq_emod_of_nonneg (by omega), Int.add_emod_right, Int.tmod_eq_emod]
  split
  · simp
  · rw [show ((W.natAbs : Nat) : Int) = W by omega]; simp

set_option maxHeartbeats 400000 in
theorem left_any (f : FileS) (c : Int) (w : World) (hs : f.small) (hp : f.put = false → f.sure.size ≤ f.now.size) :
    Calls Try.prog 55 #[.agg #[.string f.now, .string f.sure, .bool f.put], .int .i64 c] w fun e w' => e = .returned (.string (f.left c)) ∧ Upd [] w w' := by
  obtain ⟨n, s, p⟩ := f
  obtain ⟨s0, s1⟩ := hs
  simp only at *
  cases p
  · have hp := hp rfl
    have hR : (⟨n, s, false⟩ : FileS).left c = n.extract 0 (s.size + c % ((n.size : Int) - s.size + 1)).toNat := by simp [FileS.left, FileS.ways]
    have e := tmod_range c ((n.size : Int) - s.size + 1) (by omega) (by omega)
    have b0 := Int.emod_nonneg c (b := (n.size : Int) - s.size + 1) (by omega)
    have b1 := Int.emod_lt_of_pos c (b := (n.size : Int) - s.size + 1) (by omega)
    generalize c % ((n.size : Int) - s.size + 1) = r at *
    have HR := Lib.hid hR
    clear hR
    obtain ⟨r, rfl⟩ : ∃ k : Nat, r = k := ⟨r.toNat, by omega⟩
    go_enter Try.func55, Try.ntmps55
    go_wp2
    go_ret
    rw [HR.out]
    exact ⟨by congr, (Upd.refl _ _).alloc _⟩
  · have hR : (⟨n, s, true⟩ : FileS).left c = if c % ((n.size : Int) + 2) = 0 then s else n.extract 0 (c % ((n.size : Int) + 2) - 1).toNat := by simp [FileS.left, FileS.ways]
    have e := tmod_range c ((n.size : Int) + 2) (by omega) (by omega)
    have b0 := Int.emod_nonneg c (b := (n.size : Int) + 2) (by omega)
    have b1 := Int.emod_lt_of_pos c (b := (n.size : Int) + 2) (by omega)
    generalize c % ((n.size : Int) + 2) = r at *
    have HR := Lib.hid hR
    clear hR
    obtain ⟨r, rfl⟩ : ∃ k : Nat, r = k := ⟨r.toNat, by omega⟩
    by_cases hr : r = 0
    · subst hr
      go_enter Try.func55, Try.ntmps55
      go_wp2
      go_ret
      rw [HR.out]
      exact ⟨rfl, (Upd.refl _ _).alloc _⟩
    · go_enter Try.func55, Try.ntmps55
      go_wp2
      go_ret
      rw [HR.out, if_neg (by omega)]
      exact ⟨ret_str (by rw [show ((r : Int) - 1).toNat = r - 1 by omega]), (Upd.refl _ _).alloc _⟩
end Go.Proofs.Ytjaoiaknglnomaa
