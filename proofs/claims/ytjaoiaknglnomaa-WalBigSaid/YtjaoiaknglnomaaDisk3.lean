/-
  Package disk, walked: Put, Append, Sync, Read, Sure, Fail, New. Conditions: the strings of a disk, and what comes in, are of at most 2^40 bytes each.
-/
import Derived.Test.YtjaoiaknglnomaaDisk2
set_option linter.unusedVariables false
namespace Go.Proofs.Ytjaoiaknglnomaa
open Go.RowKit

def DiskS.tried (d : DiskS) (f : Int) : DiskS := { d with fail := (tryRes d.fail f).2 }
def DiskS.laid (d : DiskS) (i : Nat) (x : FileS) : Int × DiskS := if d.layFits i x then (0, d.set i x) else (17, d)
/-- What Put answers, and leaves. -/
def DiskS.putIt (d : DiskS) (f : Int) (s : ByteArray) : Int × DiskS :=
  if (tryRes d.fail f).1 = 0 then (d.tried f).laid f.toNat ⟨s, (d.get f.toNat).sure, true⟩ else ((tryRes d.fail f).1, d.tried f)
def DiskS.appendIt (d : DiskS) (f : Int) (s : ByteArray) : Int × DiskS :=
  if (tryRes d.fail f).1 = 0 then (d.tried f).laid f.toNat ⟨(d.get f.toNat).now ++ s, (d.get f.toNat).sure, (d.get f.toNat).put⟩ else ((tryRes d.fail f).1, d.tried f)
def DiskS.syncIt (d : DiskS) (f : Int) : Int × DiskS :=
  if (tryRes d.fail f).1 = 0 then (0, (d.tried f).set f.toNat ⟨(d.get f.toNat).now, (d.get f.toNat).now, false⟩) else ((tryRes d.fail f).1, d.tried f)

theorem tryRes_zero {fail f : Int} (h : (tryRes fail f).1 = 0) : 0 ≤ f ∧ f < 4 := by
  unfold tryRes at h
  by_cases hc : 0 ≤ f ∧ f < 4
  · exact hc
  · rw [if_neg hc] at h; simp at h
theorem tryRes_range (fail f : Int) : (tryRes fail f).1 = 0 ∨ (tryRes fail f).1 = 1 ∨ (tryRes fail f).1 = 8 := by
  unfold tryRes; split
  · split
    · simp
    · split <;> simp
  · simp

/-- A disk as it may be. -/
structure DiskS.fine (d : DiskS) : Prop where
  small : d.small
  room : d.room ≤ 1099511627776
  fail0 : 0 ≤ d.fail
  fail1 : d.fail ≤ 1073741825

theorem DiskS.fine.tried {d : DiskS} (h : d.fine) (f : Int) : (d.tried f).fine := by
  obtain ⟨h1, h2, h3, h4⟩ := h
  refine ⟨h1, h2, ?_, ?_⟩
  all_goals
    simp only [DiskS.tried, tryRes]
    split
    · split
      · simp
      · split <;> simp <;> omega
    · assumption

theorem DiskS.get_small {d : DiskS} (h : d.small) (i : Nat) : (d.get i).small := by
  obtain ⟨h0, h1, h2, h3⟩ := h
  match i with
  | 0 => exact h0
  | 1 => exact h1
  | 2 => exact h2
  | _ + 3 => exact h3

theorem lay_fun (d : DiskS) (x : FileS) (f : Nat) (w : World) (b : Nat) (hd : DiskAt w b d) (hx : x.small) (hs : d.small) (hr : d.room ≤ 1099511627776) (hf : f < 4) :
    Calls Try.prog 60 #[.pointer (some ⟨b, 0, none⟩), .int .i64 f, .agg #[.string x.now, .string x.sure, .bool x.put]] w fun e w' =>
      e = .returned (.int .i64 (d.laid f x).1) ∧ Upd [b] w w' ∧ DiskAt w' b (d.laid f x).2 := by
  refine (lay_any d x f w b hd hx hs hr hf).mono ?_
  rintro e w' (⟨h, rfl, hu, hd⟩ | ⟨h, rfl, hu, hd⟩) <;> simp only [DiskS.laid, h] <;> exact ⟨rfl, hu, hd⟩

set_option maxHeartbeats 1000000 in
theorem put_any (d : DiskS) (f : Int) (s : ByteArray) (w : World) (b : Nat) (hd : DiskAt w b d) (hfi : d.fine) (hs : s.size ≤ 1099511627776) :
    Calls Try.prog 30 #[.pointer (some ⟨b, 0, none⟩), .int .i64 f, .string s] w fun e w' =>
      e = .returned (.int .i64 (d.putIt f s).1) ∧ Upd [b] w w' ∧ DiskAt w' b (d.putIt f s).2 := by
  have hlt := hd.lt
  have ht := tryRes_range d.fail f
  have hft := hfi.tried f
  by_cases h0 : (tryRes d.fail f).1 = 0
  · have hf := tryRes_zero h0
    have hR : d.putIt f s = (d.tried f).laid f.toNat ⟨s, (d.get f.toNat).sure, true⟩ := by simp [DiskS.putIt, h0]
    have HR := Lib.hid hR
    clear hR
    have H0 := Lib.hid h0
    clear ht h0
    go_enter Try.func30, Try.ntmps30
    go_wp2_with fail
    refine (try_any d f _ b hd (by have := hfi.fail0; omega) (by have := hfi.fail1; omega)).mono ?_
    rintro e w1 ⟨rfl, hu1, hd1⟩
    rw [H0.out]
    have HU := Lib.hid hu1
    have hl1 := hd1.lt
    clear hu1
    obtain ⟨i, rfl⟩ : ∃ i : Nat, f = i := ⟨f.toNat, by omega⟩
    rcases (by omega : i = 0 ∨ i = 1 ∨ i = 2 ∨ i = 3) with rfl | rfl | rfl | rfl
    · have hc := hd1.cell
      have hz := hd1.frozen
      simp only [DiskS.cells] at hc
      go_wp2_with fail
      refine (lay_fun (d.tried 0) ⟨s, d.f0.sure, true⟩ 0 _ b (by repeat (first | with_reducible exact hd1 | with_reducible refine Blk.alloc ?_ _ | with_reducible refine Blk.drew ?_ | with_reducible refine Blk.set_other ?_ (by first | (simp; done) | (simp; omega)) _ | exact hd1)) ⟨hs, (DiskS.get_small hfi.small 0).2⟩ hft.small hft.room (by omega)).mono ?_
      rintro e w2 ⟨rfl, hu2, hd2⟩
      go_wp2
      go_ret
      rw [HR.out]
      exact ⟨rfl, (HU.out.trans (by repeat (first | with_reducible exact hu2 | with_reducible exact Upd.refl _ _ | with_reducible refine Upd.alloc ?_ _ | with_reducible refine Upd.drew ?_ | with_reducible refine Upd.setCell ?_ (by first | (simp; done) | (simp; omega)) _))).trans hu2, hd2⟩
    · have hc := hd1.cell
      have hz := hd1.frozen
      simp only [DiskS.cells] at hc
      go_wp2_with fail
      refine (lay_fun (d.tried 1) ⟨s, d.f1.sure, true⟩ 1 _ b (by repeat (first | with_reducible exact hd1 | with_reducible refine Blk.alloc ?_ _ | with_reducible refine Blk.drew ?_ | with_reducible refine Blk.set_other ?_ (by first | (simp; done) | (simp; omega)) _ | exact hd1)) ⟨hs, (DiskS.get_small hfi.small 1).2⟩ hft.small hft.room (by omega)).mono ?_
      rintro e w2 ⟨rfl, hu2, hd2⟩
      go_wp2
      go_ret
      rw [HR.out]
      exact ⟨rfl, (HU.out.trans (by repeat (first | with_reducible exact hu2 | with_reducible exact Upd.refl _ _ | with_reducible refine Upd.alloc ?_ _ | with_reducible refine Upd.drew ?_ | with_reducible refine Upd.setCell ?_ (by first | (simp; done) | (simp; omega)) _))).trans hu2, hd2⟩
    · have hc := hd1.cell
      have hz := hd1.frozen
      simp only [DiskS.cells] at hc
      go_wp2_with fail
      refine (lay_fun (d.tried 2) ⟨s, d.f2.sure, true⟩ 2 _ b (by repeat (first | with_reducible exact hd1 | with_reducible refine Blk.alloc ?_ _ | with_reducible refine Blk.drew ?_ | with_reducible refine Blk.set_other ?_ (by first | (simp; done) | (simp; omega)) _ | exact hd1)) ⟨hs, (DiskS.get_small hfi.small 2).2⟩ hft.small hft.room (by omega)).mono ?_
      rintro e w2 ⟨rfl, hu2, hd2⟩
      go_wp2
      go_ret
      rw [HR.out]
      exact ⟨rfl, (HU.out.trans (by repeat (first | with_reducible exact hu2 | with_reducible exact Upd.refl _ _ | with_reducible refine Upd.alloc ?_ _ | with_reducible refine Upd.drew ?_ | with_reducible refine Upd.setCell ?_ (by first | (simp; done) | (simp; omega)) _))).trans hu2, hd2⟩
    · have hc := hd1.cell
      have hz := hd1.frozen
      simp only [DiskS.cells] at hc
      go_wp2_with fail
      refine (lay_fun (d.tried 3) ⟨s, d.f3.sure, true⟩ 3 _ b (by repeat (first | with_reducible exact hd1 | with_reducible refine Blk.alloc ?_ _ | with_reducible refine Blk.drew ?_ | with_reducible refine Blk.set_other ?_ (by first | (simp; done) | (simp; omega)) _ | exact hd1)) ⟨hs, (DiskS.get_small hfi.small 3).2⟩ hft.small hft.room (by omega)).mono ?_
      rintro e w2 ⟨rfl, hu2, hd2⟩
      go_wp2
      go_ret
      rw [HR.out]
      exact ⟨rfl, (HU.out.trans (by repeat (first | with_reducible exact hu2 | with_reducible exact Upd.refl _ _ | with_reducible refine Upd.alloc ?_ _ | with_reducible refine Upd.drew ?_ | with_reducible refine Upd.setCell ?_ (by first | (simp; done) | (simp; omega)) _))).trans hu2, hd2⟩
  · have hR : d.putIt f s = ((tryRes d.fail f).1, d.tried f) := by simp [DiskS.putIt, h0]
    have HR := Lib.hid hR
    clear hR
    go_enter Try.func30, Try.ntmps30
    go_wp2_with fail
    refine (try_any d f _ b hd (by have := hfi.fail0; omega) (by have := hfi.fail1; omega)).mono ?_
    rintro e w1 ⟨rfl, hu1, hd1⟩
    have hne : ((tryRes d.fail f).1 != 0) = true := by simpa using h0
    clear h0 ht
    go_wp2
    go_ret
    rw [HR.out]
    exact ⟨rfl, hu1, hd1⟩
set_option maxHeartbeats 1000000 in
theorem append_any (d : DiskS) (f : Int) (s : ByteArray) (w : World) (b : Nat) (hd : DiskAt w b d) (hfi : d.fine) (hs : (d.get f.toNat).now.size + s.size ≤ 1099511627776) :
    Calls Try.prog 40 #[.pointer (some ⟨b, 0, none⟩), .int .i64 f, .string s] w fun e w' =>
      e = .returned (.int .i64 (d.appendIt f s).1) ∧ Upd [b] w w' ∧ DiskAt w' b (d.appendIt f s).2 := by
  have hlt := hd.lt
  have ht := tryRes_range d.fail f
  have hft := hfi.tried f
  by_cases h0 : (tryRes d.fail f).1 = 0
  · have hf := tryRes_zero h0
    have hR : d.appendIt f s = (d.tried f).laid f.toNat ⟨(d.get f.toNat).now ++ s, (d.get f.toNat).sure, (d.get f.toNat).put⟩ := by simp [DiskS.appendIt, h0]
    have HR := Lib.hid hR
    clear hR
    have H0 := Lib.hid h0
    clear ht h0
    go_enter Try.func40, Try.ntmps40
    go_wp2_with fail
    refine (try_any d f _ b hd (by have := hfi.fail0; omega) (by have := hfi.fail1; omega)).mono ?_
    rintro e w1 ⟨rfl, hu1, hd1⟩
    rw [H0.out]
    have HU := Lib.hid hu1
    have hl1 := hd1.lt
    clear hu1
    obtain ⟨i, rfl⟩ : ∃ i : Nat, f = i := ⟨f.toNat, by omega⟩
    rcases (by omega : i = 0 ∨ i = 1 ∨ i = 2 ∨ i = 3) with rfl | rfl | rfl | rfl
    · have hc := hd1.cell
      have hz := hd1.frozen
      simp only [DiskS.cells] at hc
      have hs' : d.f0.now.size + s.size ≤ 1099511627776 := hs
      go_wp2_with fail
      refine (lay_fun (d.tried 0) ⟨d.f0.now ++ s, d.f0.sure, d.f0.put⟩ 0 _ b (by repeat (first | with_reducible exact hd1 | with_reducible refine Blk.alloc ?_ _ | with_reducible refine Blk.drew ?_ | with_reducible refine Blk.set_other ?_ (by first | (simp; done) | (simp; omega)) _ | exact hd1)) ⟨by simpa using hs', (DiskS.get_small hfi.small 0).2⟩ hft.small hft.room (by omega)).mono ?_
      rintro e w2 ⟨rfl, hu2, hd2⟩
      go_wp2
      go_ret
      rw [HR.out]
      exact ⟨rfl, (HU.out.trans (by repeat (first | with_reducible exact hu2 | with_reducible exact Upd.refl _ _ | with_reducible refine Upd.alloc ?_ _ | with_reducible refine Upd.drew ?_ | with_reducible refine Upd.setCell ?_ (by first | (simp; done) | (simp; omega)) _))).trans hu2, hd2⟩
    · have hc := hd1.cell
      have hz := hd1.frozen
      simp only [DiskS.cells] at hc
      have hs' : d.f1.now.size + s.size ≤ 1099511627776 := hs
      go_wp2_with fail
      refine (lay_fun (d.tried 1) ⟨d.f1.now ++ s, d.f1.sure, d.f1.put⟩ 1 _ b (by repeat (first | with_reducible exact hd1 | with_reducible refine Blk.alloc ?_ _ | with_reducible refine Blk.drew ?_ | with_reducible refine Blk.set_other ?_ (by first | (simp; done) | (simp; omega)) _ | exact hd1)) ⟨by simpa using hs', (DiskS.get_small hfi.small 1).2⟩ hft.small hft.room (by omega)).mono ?_
      rintro e w2 ⟨rfl, hu2, hd2⟩
      go_wp2
      go_ret
      rw [HR.out]
      exact ⟨rfl, (HU.out.trans (by repeat (first | with_reducible exact hu2 | with_reducible exact Upd.refl _ _ | with_reducible refine Upd.alloc ?_ _ | with_reducible refine Upd.drew ?_ | with_reducible refine Upd.setCell ?_ (by first | (simp; done) | (simp; omega)) _))).trans hu2, hd2⟩
    · have hc := hd1.cell
      have hz := hd1.frozen
      simp only [DiskS.cells] at hc
      have hs' : d.f2.now.size + s.size ≤ 1099511627776 := hs
      go_wp2_with fail
      refine (lay_fun (d.tried 2) ⟨d.f2.now ++ s, d.f2.sure, d.f2.put⟩ 2 _ b (by repeat (first | with_reducible exact hd1 | with_reducible refine Blk.alloc ?_ _ | with_reducible refine Blk.drew ?_ | with_reducible refine Blk.set_other ?_ (by first | (simp; done) | (simp; omega)) _ | exact hd1)) ⟨by simpa using hs', (DiskS.get_small hfi.small 2).2⟩ hft.small hft.room (by omega)).mono ?_
      rintro e w2 ⟨rfl, hu2, hd2⟩
      go_wp2
      go_ret
      rw [HR.out]
      exact ⟨rfl, (HU.out.trans (by repeat (first | with_reducible exact hu2 | with_reducible exact Upd.refl _ _ | with_reducible refine Upd.alloc ?_ _ | with_reducible refine Upd.drew ?_ | with_reducible refine Upd.setCell ?_ (by first | (simp; done) | (simp; omega)) _))).trans hu2, hd2⟩
    · have hc := hd1.cell
      have hz := hd1.frozen
      simp only [DiskS.cells] at hc
      have hs' : d.f3.now.size + s.size ≤ 1099511627776 := hs
      go_wp2_with fail
      refine (lay_fun (d.tried 3) ⟨d.f3.now ++ s, d.f3.sure, d.f3.put⟩ 3 _ b (by repeat (first | with_reducible exact hd1 | with_reducible refine Blk.alloc ?_ _ | with_reducible refine Blk.drew ?_ | with_reducible refine Blk.set_other ?_ (by first | (simp; done) | (simp; omega)) _ | exact hd1)) ⟨by simpa using hs', (DiskS.get_small hfi.small 3).2⟩ hft.small hft.room (by omega)).mono ?_
      rintro e w2 ⟨rfl, hu2, hd2⟩
      go_wp2
      go_ret
      rw [HR.out]
      exact ⟨rfl, (HU.out.trans (by repeat (first | with_reducible exact hu2 | with_reducible exact Upd.refl _ _ | with_reducible refine Upd.alloc ?_ _ | with_reducible refine Upd.drew ?_ | with_reducible refine Upd.setCell ?_ (by first | (simp; done) | (simp; omega)) _))).trans hu2, hd2⟩
  · have hR : d.appendIt f s = ((tryRes d.fail f).1, d.tried f) := by simp [DiskS.appendIt, h0]
    have HR := Lib.hid hR
    clear hR
    go_enter Try.func40, Try.ntmps40
    go_wp2_with fail
    refine (try_any d f _ b hd (by have := hfi.fail0; omega) (by have := hfi.fail1; omega)).mono ?_
    rintro e w1 ⟨rfl, hu1, hd1⟩
    have hne : ((tryRes d.fail f).1 != 0) = true := by simpa using h0
    clear h0 ht
    go_wp2
    go_ret
    rw [HR.out]
    exact ⟨rfl, hu1, hd1⟩

set_option maxHeartbeats 1000000 in
theorem sync_any (d : DiskS) (f : Int) (w : World) (b : Nat) (hd : DiskAt w b d) (hfi : d.fine) :
    Calls Try.prog 19 #[.pointer (some ⟨b, 0, none⟩), .int .i64 f] w fun e w' =>
      e = .returned (.int .i64 (d.syncIt f).1) ∧ Upd [b] w w' ∧ DiskAt w' b (d.syncIt f).2 := by
  have hlt := hd.lt
  have ht := tryRes_range d.fail f
  by_cases h0 : (tryRes d.fail f).1 = 0
  · have hf := tryRes_zero h0
    have hR : d.syncIt f = (0, (d.tried f).set f.toNat ⟨(d.get f.toNat).now, (d.get f.toNat).now, false⟩) := by simp [DiskS.syncIt, h0]
    have HR := Lib.hid hR
    clear hR
    have H0 := Lib.hid h0
    clear ht h0
    go_enter Try.func19, Try.ntmps19
    go_wp2_with fail
    refine (try_any d f _ b hd (by have := hfi.fail0; omega) (by have := hfi.fail1; omega)).mono ?_
    rintro e w1 ⟨rfl, hu1, hd1⟩
    rw [H0.out]
    have HU := Lib.hid hu1
    have hl1 := hd1.lt
    clear hu1
    obtain ⟨i, rfl⟩ : ∃ i : Nat, f = i := ⟨f.toNat, by omega⟩
    rcases (by omega : i = 0 ∨ i = 1 ∨ i = 2 ∨ i = 3) with rfl | rfl | rfl | rfl
    · have hc := hd1.cell
      have hz := hd1.frozen
      simp only [DiskS.cells] at hc
      go_wp2_with fail
      refine (settle_any (d.tried 0) 0 d.f0.now _ b (by repeat (first | with_reducible exact hd1 | with_reducible refine Blk.alloc ?_ _ | with_reducible refine Blk.drew ?_ | with_reducible refine Blk.set_other ?_ (by first | (simp; done) | (simp; omega)) _ | exact hd1)) (by omega)).mono ?_
      rintro e w2 ⟨rfl, hu2, hd2⟩
      go_wp2
      go_ret
      rw [HR.out]
      exact ⟨rfl, (HU.out.trans (by repeat (first | with_reducible exact hu2 | with_reducible exact Upd.refl _ _ | with_reducible refine Upd.alloc ?_ _ | with_reducible refine Upd.drew ?_ | with_reducible refine Upd.setCell ?_ (by first | (simp; done) | (simp; omega)) _))).trans hu2, hd2⟩
    · have hc := hd1.cell
      have hz := hd1.frozen
      simp only [DiskS.cells] at hc
      go_wp2_with fail
      refine (settle_any (d.tried 1) 1 d.f1.now _ b (by repeat (first | with_reducible exact hd1 | with_reducible refine Blk.alloc ?_ _ | with_reducible refine Blk.drew ?_ | with_reducible refine Blk.set_other ?_ (by first | (simp; done) | (simp; omega)) _ | exact hd1)) (by omega)).mono ?_
      rintro e w2 ⟨rfl, hu2, hd2⟩
      go_wp2
      go_ret
      rw [HR.out]
      exact ⟨rfl, (HU.out.trans (by repeat (first | with_reducible exact hu2 | with_reducible exact Upd.refl _ _ | with_reducible refine Upd.alloc ?_ _ | with_reducible refine Upd.drew ?_ | with_reducible refine Upd.setCell ?_ (by first | (simp; done) | (simp; omega)) _))).trans hu2, hd2⟩
    · have hc := hd1.cell
      have hz := hd1.frozen
      simp only [DiskS.cells] at hc
      go_wp2_with fail
      refine (settle_any (d.tried 2) 2 d.f2.now _ b (by repeat (first | with_reducible exact hd1 | with_reducible refine Blk.alloc ?_ _ | with_reducible refine Blk.drew ?_ | with_reducible refine Blk.set_other ?_ (by first | (simp; done) | (simp; omega)) _ | exact hd1)) (by omega)).mono ?_
      rintro e w2 ⟨rfl, hu2, hd2⟩
      go_wp2
      go_ret
      rw [HR.out]
      exact ⟨rfl, (HU.out.trans (by repeat (first | with_reducible exact hu2 | with_reducible exact Upd.refl _ _ | with_reducible refine Upd.alloc ?_ _ | with_reducible refine Upd.drew ?_ | with_reducible refine Upd.setCell ?_ (by first | (simp; done) | (simp; omega)) _))).trans hu2, hd2⟩
    · have hc := hd1.cell
      have hz := hd1.frozen
      simp only [DiskS.cells] at hc
      go_wp2_with fail
      refine (settle_any (d.tried 3) 3 d.f3.now _ b (by repeat (first | with_reducible exact hd1 | with_reducible refine Blk.alloc ?_ _ | with_reducible refine Blk.drew ?_ | with_reducible refine Blk.set_other ?_ (by first | (simp; done) | (simp; omega)) _ | exact hd1)) (by omega)).mono ?_
      rintro e w2 ⟨rfl, hu2, hd2⟩
      go_wp2
      go_ret
      rw [HR.out]
      exact ⟨rfl, (HU.out.trans (by repeat (first | with_reducible exact hu2 | with_reducible exact Upd.refl _ _ | with_reducible refine Upd.alloc ?_ _ | with_reducible refine Upd.drew ?_ | with_reducible refine Upd.setCell ?_ (by first | (simp; done) | (simp; omega)) _))).trans hu2, hd2⟩
  · have hR : d.syncIt f = ((tryRes d.fail f).1, d.tried f) := by simp [DiskS.syncIt, h0]
    have HR := Lib.hid hR
    clear hR
    go_enter Try.func19, Try.ntmps19
    go_wp2_with fail
    refine (try_any d f _ b hd (by have := hfi.fail0; omega) (by have := hfi.fail1; omega)).mono ?_
    rintro e w1 ⟨rfl, hu1, hd1⟩
    have hne : ((tryRes d.fail f).1 == 0) = false := by simpa using h0
    clear h0 ht
    go_wp2
    go_ret
    rw [HR.out]
    exact ⟨rfl, hu1, hd1⟩

def DiskS.readIt (d : DiskS) (f : Int) : ByteArray × Int := if 0 ≤ f ∧ f < 4 then ((d.get f.toNat).now, 0) else (⟨#[]⟩, 1)
def DiskS.sureIt (d : DiskS) (f : Int) : Bool := if 0 ≤ f ∧ f < 4 then (d.get f.toNat).now.toList == (d.get f.toNat).sure.toList else false

set_option maxHeartbeats 1000000 in
theorem read_any (d : DiskS) (f : Int) (w : World) (b : Nat) (hd : DiskAt w b d) :
    Calls Try.prog 20 #[.pointer (some ⟨b, 0, none⟩), .int .i64 f] w fun e w' =>
      e = .returned (.tuple #[.string (d.readIt f).1, .int .i64 (d.readIt f).2]) ∧ Upd [] w w' := by
  have hlt := hd.lt
  have hc := hd.cell
  simp only [DiskS.cells] at hc
  clear hd
  by_cases hf : 0 ≤ f ∧ f < 4
  · obtain ⟨i, rfl⟩ : ∃ i : Nat, f = i := ⟨f.toNat, by omega⟩
    rcases (by omega : i = 0 ∨ i = 1 ∨ i = 2 ∨ i = 3) with rfl | rfl | rfl | rfl
    all_goals
      clear hf
      go_enter Try.func20, Try.ntmps20
      go_wp2_with ((with_reducible refine (has_any _ _).mono ?_); rintro e w' ⟨rfl, rfl⟩)
      go_ret2
      exact ⟨rfl, Upd.refl _ _⟩
  · have hr : d.readIt f = (⟨#[]⟩, 1) := by simp [DiskS.readIt, hf]
    have HR := Lib.hid hr
    clear hr
    have hne : decide (0 ≤ f ∧ f < 4) = false := by simpa using hf
    go_enter Try.func20, Try.ntmps20
    go_wp2_with ((with_reducible refine (has_any _ _).mono ?_); rintro e w' ⟨rfl, rfl⟩)
    go_ret2
    rw [HR.out]
    exact ⟨rfl, Upd.refl _ _⟩
end Go.Proofs.Ytjaoiaknglnomaa
