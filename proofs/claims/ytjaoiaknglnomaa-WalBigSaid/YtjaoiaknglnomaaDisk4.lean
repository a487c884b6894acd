/-
  Package disk, walked: Sure, Fail, New, left. Conditions: the strings of a disk are of at most 2^40 bytes each; what is for sure of a file that was not put is the beginning of what it has.
-/
import Derived.Test.YtjaoiaknglnomaaDisk3
set_option linter.unusedVariables false
namespace Go.Proofs.Ytjaoiaknglnomaa
open Go.RowKit

theorem sure_any (d : DiskS) (f : Int) (w : World) (b : Nat) (hd : DiskAt w b d) :
    Calls Try.prog 23 #[.pointer (some ⟨b, 0, none⟩), .int .i64 f] w fun e w' =>
      e = .returned (.bool (d.sureIt f)) ∧ Upd [] w w' := by
  have hlt := hd.lt
  by_cases hf : 0 ≤ f ∧ f < 4
  · have hr : d.sureIt f = ((d.get f.toNat).now.toList == (d.get f.toNat).sure.toList) := by simp [DiskS.sureIt, hf]
    have HR := Lib.hid hr
    clear hr
    obtain ⟨i, rfl⟩ : ∃ i : Nat, f = i := ⟨f.toNat, by omega⟩
    rcases (by omega : i = 0 ∨ i = 1 ∨ i = 2 ∨ i = 3) with rfl | rfl | rfl | rfl
    all_goals
      clear hf
      have hc := hd.cell
      simp only [DiskS.cells] at hc
      go_enter Try.func23, Try.ntmps23
      go_wp2_with fail
      refine (has_any _ _).mono ?_
      rintro e w' ⟨rfl, rfl⟩
      go_wp2_with fail
      refine (safe_any _ _ _ _).mono ?_
      rintro e w2 ⟨rfl, hu2⟩
      go_wp2
      go_ret
      exact ⟨ret_bool HR.out.symm, hu2⟩
  · have hr : d.sureIt f = false := by simp [DiskS.sureIt, hf]
    have HR := Lib.hid hr
    clear hr
    have hne : decide (0 ≤ f ∧ f < 4) = false := by simpa using hf
    go_enter Try.func23, Try.ntmps23
    go_wp2_with fail
    refine (has_any _ _).mono ?_
    rintro e w' ⟨rfl, rfl⟩
    rw [hne]
    go_wp2
    go_ret
    rw [HR.out]
    exact ⟨rfl, Upd.refl _ _⟩

theorem fail_any (d : DiskS) (n : Int) (w : World) (b : Nat) (hd : DiskAt w b d) :
    Calls Try.prog 18 #[.pointer (some ⟨b, 0, none⟩), .int .i64 n] w fun e w' =>
      e = .returned (.tuple #[]) ∧ Upd [b] w w' ∧ DiskAt w' b { d with fail := max (min n 1073741824) (-1) + 1 } := by
  have hlt := hd.lt
  have hc := hd.cell
  have hz := hd.frozen
  simp only [DiskS.cells] at hc
  have HD := Lib.hid hd
  clear hd
  go_enter Try.func18, Try.ntmps18
  go_wp2
  all_goals
    go_end0
    have hh : ∀ v : Int, v = max (min n 1073741824) (-1) + 1 → DiskAt (w.setCell ⟨b, 13, none⟩ (.int .i64 v)) b { d with fail := max (min n 1073741824) (-1) + 1 } := by
      rintro _ rfl
      exact HD.out.set 13 _
    exact ⟨rfl, (Upd.refl _ _).setCell (by simp) _, hh _ (by omega)⟩

theorem new_any (r : Int) (w : World) :
    Calls Try.prog 15 #[.int .i64 r] w fun e w' => ∃ b, e = .returned (.pointer (some ⟨b, 0, none⟩)) ∧ w.heap.size ≤ b ∧ Upd [] w w' ∧
      DiskAt w' b ⟨⟨⟨#[]⟩, ⟨#[]⟩, false⟩, ⟨⟨#[]⟩, ⟨#[]⟩, false⟩, ⟨⟨#[]⟩, ⟨#[]⟩, false⟩, ⟨⟨#[]⟩, ⟨#[]⟩, false⟩, max r 0, 0⟩ := by
  go_enter Try.func15, Try.ntmps15
  go_wp2
  all_goals
    go_ret
    refine ⟨_, rfl, Nat.le_refl _, (Upd.refl _ _).alloc _, ?_⟩
  · rw [show max r 0 = 0 by omega]; exact Blk.new w _ _
  · rw [show max r 0 = r by omega]; exact Blk.new w _ _

theorem ret_str {a b : ByteArray} (h : a = b) : Ending.returned (.string a) = .returned (.string b) := by rw [h]

/-- How many ways there are to lose. -/
def FileS.ways (f : FileS) : Int := if f.put then f.now.size + 2 else (f.now.size : Int) - f.sure.size + 1
def FileS.left (f : FileS) (c : Int) : ByteArray :=
  if f.put then (if c % f.ways = 0 then f.sure else f.now.extract 0 (c % f.ways - 1).toNat) else f.now.extract 0 (f.sure.size + c % f.ways).toNat

/-- Go's way to bring a number into a range. -/
theorem tmod_range (c W : Int) (h0 : 1 ≤ W) (h1 : W ≤ 4611686018427387904) : (wrap64 (c.tmod W + W)).tmod W = c % W := by
  have h2 : -W < c.tmod W := by
    rcases Int.lt_or_le c 0 with h | h
    · have := Int.neg_tmod (-c) W; rw [Int.neg_neg] at this; rw [this]
      have := Int.tmod_lt_of_pos (-c) (b := W) (by omega); omega
    · have := Int.tmod_nonneg W h; omega
  have h3 : c.tmod W < W := Int.tmod_lt_of_pos c (by omega)
  rw [show wrap64 (c.tmod W + W) = c.tmod W + W by unfold wrap64; omega]
  rw [Int.tmod_eq_emod_of_nonneg (by omega), Int.add_emod_right, Int.tmod_eq_emod]
  split
  · simp
  · rw [show ((W.natAbs : Nat) : Int) = W by omega]; simp

set_option maxHeartbeats 400000 in
theorem left_any (f : FileS) (c : Int) (w : World) (hs : f.small) (hp : f.put = false → f.sure.size ≤ f.now.size) :
    Calls Try.prog 55 #[.agg #[.string f.now, .string f.sure, .bool f.put], .int .i64 c] w fun e w' => e = .returned (.string (f.left c)) ∧ Upd [] w w' := by
  obtain ⟨n, s, p⟩ := f
  obtain ⟨s0, s1⟩ := hs
  simp only at *
  cases p
  · have hp := hp rfl
    have hR : (⟨n, s, false⟩ : FileS).left c = n.extract 0 (s.size + c % ((n.size : Int) - s.size + 1)).toNat := by simp [FileS.left, FileS.ways]
    have e := tmod_range c ((n.size : Int) - s.size + 1) (by omega) (by omega)
    have b0 := Int.emod_nonneg c (b := (n.size : Int) - s.size + 1) (by omega)
    have b1 := Int.emod_lt_of_pos c (b := (n.size : Int) - s.size + 1) (by omega)
    generalize c % ((n.size : Int) - s.size + 1) = r at *
    have HR := Lib.hid hR
    clear hR
    obtain ⟨r, rfl⟩ : ∃ k : Nat, r = k := ⟨r.toNat, by omega⟩
    go_enter Try.func55, Try.ntmps55
    go_wp2
    go_ret
    rw [HR.out]
    exact ⟨by congr, (Upd.refl _ _).alloc _⟩
  · have hR : (⟨n, s, true⟩ : FileS).left c = if c % ((n.size : Int) + 2) = 0 then s else n.extract 0 (c % ((n.size : Int) + 2) - 1).toNat := by simp [FileS.left, FileS.ways]
    have e := tmod_range c ((n.size : Int) + 2) (by omega) (by omega)
    have b0 := Int.emod_nonneg c (b := (n.size : Int) + 2) (by omega)
    have b1 := Int.emod_lt_of_pos c (b := (n.size : Int) + 2) (by omega)
    generalize c % ((n.size : Int) + 2) = r at *
    have HR := Lib.hid hR
    clear hR
    obtain ⟨r, rfl⟩ : ∃ k : Nat, r = k := ⟨r.toNat, by omega⟩
    by_cases hr : r = 0
    · subst hr
      go_enter Try.func55, Try.ntmps55
      go_wp2
      go_ret
      rw [HR.out]
      exact ⟨rfl, (Upd.refl _ _).alloc _⟩
    · go_enter Try.func55, Try.ntmps55
      go_wp2
      go_ret
      rw [HR.out, if_neg (by omega)]
      exact ⟨ret_str (by rw [show ((r : Int) - 1).toNat = r - 1 by omega]), (Upd.refl _ _).alloc _⟩
end Go.Proofs.Ytjaoiaknglnomaa
