/-
  The small functions of package disk, walked: has, weight, safe, try, settle, Used. Conditions: the strings of a disk are of at most 2^40 bytes each.
-/
import Derived.Test.YtjaoiaknglnomaaRows
import Derived.Test.YtjaoiaknglnomaaBase
set_option linter.unusedVariables false
namespace Go.Proofs.Ytjaoiaknglnomaa
open Go.RowKit

structure FileS where
  now : ByteArray
  sure : ByteArray
  put : Bool

structure DiskS where
  f0 : FileS
  f1 : FileS
  f2 : FileS
  f3 : FileS
  room : Int
  fail : Int

def FileS.val (f : FileS) : Value := .agg #[.string f.now, .string f.sure, .bool f.put]
def FileS.weight (f : FileS) : Nat := max f.now.size f.sure.size
def FileS.small (f : FileS) : Prop := f.now.size ≤ 1099511627776 ∧ f.sure.size ≤ 1099511627776
def DiskS.cells (d : DiskS) : Array Value := #[.string d.f0.now, .string d.f0.sure, .bool d.f0.put, .string d.f1.now, .string d.f1.sure, .bool d.f1.put,
  .string d.f2.now, .string d.f2.sure, .bool d.f2.put, .string d.f3.now, .string d.f3.sure, .bool d.f3.put, .int .i64 d.room, .int .i64 d.fail]
def DiskS.small (d : DiskS) : Prop := d.f0.small ∧ d.f1.small ∧ d.f2.small ∧ d.f3.small
def DiskS.get (d : DiskS) (i : Nat) : FileS := match i with | 0 => d.f0 | 1 => d.f1 | 2 => d.f2 | _ => d.f3
def DiskS.set (d : DiskS) (i : Nat) (f : FileS) : DiskS := match i with | 0 => { d with f0 := f } | 1 => { d with f1 := f } | 2 => { d with f2 := f } | _ => { d with f3 := f }
def DiskS.used (d : DiskS) : Nat := d.f0.weight + d.f1.weight + d.f2.weight + d.f3.weight

abbrev DiskAt (w : World) (b : Nat) (d : DiskS) : Prop := Blk w b d.cells 92

theorem has_any (f : Int) (w : World) :
    Calls Try.prog 52 #[.int .i64 f] w fun e w' => e = .returned (.bool (decide (0 ≤ f ∧ f < 4))) ∧ w = w' := by
  by_cases h1 : 0 ≤ f <;> by_cases h2 : f < 4
  all_goals
    go_enter Try.func52, Try.ntmps52
    go_wp2
    go_ret
    exact ⟨by simp [h1, h2], rfl⟩

theorem ret_int {k : IntKind} {a b : Int} (h : a = b) : Ending.returned (.int k a) = .returned (.int k b) := by rw [h]
theorem ret_bool {a b : Bool} (h : a = b) : Ending.returned (.bool a) = .returned (.bool b) := by rw [h]

theorem weight_any (n s : ByteArray) (p : Bool) (w : World) (hn : n.size ≤ 1099511627776) (hs : s.size ≤ 1099511627776) :
    Calls Try.prog 56 #[.agg #[.string n, .string s, .bool p]] w fun e w' => e = .returned (.int .i64 ((max n.size s.size : Nat) : Int)) ∧ Upd [] w w' := by
  go_enter Try.func56, Try.ntmps56
  go_wp2
  all_goals
    go_ret
    refine ⟨ret_int ?_, (Upd.refl _ _).alloc _⟩
    try omega

theorem safe_any (n s : ByteArray) (p : Bool) (w : World) :
    Calls Try.prog 54 #[.agg #[.string n, .string s, .bool p]] w fun e w' => e = .returned (.bool (n.toList == s.toList)) ∧ Upd [] w w' := by
  go_enter Try.func54, Try.ntmps54
  go_wp2
  all_goals
    go_ret
    exact ⟨rfl, (Upd.refl _ _).alloc _⟩

/-- What 'try' answers: the error's number, and the disk's own count. -/
def tryRes (fail f : Int) : Int × Int :=
  if 0 ≤ f ∧ f < 4 then (if fail = 0 then (0, 0) else if fail - 1 = 0 then (8, 0) else (0, fail - 1)) else (1, fail)

theorem try_any (d : DiskS) (f : Int) (w : World) (b : Nat) (hd : DiskAt w b d) (hf : -9223372036854775808 < d.fail) (hf' : d.fail ≤ 9223372036854775807) :
    Calls Try.prog 50 #[.pointer (some ⟨b, 0, none⟩), .int .i64 f] w fun e w' => e = .returned (.int .i64 (tryRes d.fail f).1) ∧ Upd [b] w w' ∧ DiskAt w' b { d with fail := (tryRes d.fail f).2 } := by
  have hc := hd.cell
  have hz := hd.frozen
  have hlt := hd.lt
  simp only [DiskS.cells] at hc
  have hd' := Lib.hid hd
  clear hd
  by_cases h1 : 0 ≤ f ∧ f < 4
  · have hne : decide (0 ≤ f ∧ f < 4) = true := by simpa using h1
    by_cases h2 : d.fail = 0
    · have h2' : (d.fail == 0) = true := by simpa using h2
      have hr : tryRes d.fail f = (0, 0) := by simp [tryRes, h1, h2]
      have hR := Lib.hid hr
      have hH := Lib.hid h2
      clear hr h2
      go_enter Try.func50, Try.ntmps50
      go_wp2_with ((with_reducible refine (has_any f _).mono ?_); rintro e w' ⟨rfl, rfl⟩)
      go_ret
      rw [hR.out]
      refine ⟨rfl, Upd.refl _ _, ?_⟩
      have := hd'.out
      rw [show ({ d with fail := 0 } : DiskS) = d from by rw [← hH.out]]
      exact this
    · by_cases h3 : d.fail = 1
      · have h2' : (d.fail == 0) = false := by simpa using h2
        have hr : tryRes d.fail f = (8, 0) := by simp [tryRes, h1, h3]
        have hm : (d.fail - 1 == 0) = true := by simp; omega
        have e1 : d.fail - 1 = 0 := by omega
        have hR := Lib.hid hr
        have hE := Lib.hid e1
        clear hr h2 h3 e1
        go_enter Try.func50, Try.ntmps50
        go_wp2_with ((with_reducible refine (has_any f _).mono ?_); rintro e w' ⟨rfl, rfl⟩)
        go_ret
        rw [hR.out, hE.out]
        exact ⟨rfl, (Upd.refl _ _).setCell (by simp) _, hd'.out.set 13 _⟩
      · have h2' : (d.fail == 0) = false := by simpa using h2
        have hm : (d.fail - 1 == 0) = false := by simp; omega
        have hr : tryRes d.fail f = (0, d.fail - 1) := by simp [tryRes, h1, h2]; omega
        have hR := Lib.hid hr
        clear hr h2 h3
        go_enter Try.func50, Try.ntmps50
        go_wp2_with ((with_reducible refine (has_any f _).mono ?_); rintro e w' ⟨rfl, rfl⟩)
        go_ret
        rw [hR.out]
        exact ⟨rfl, (Upd.refl _ _).setCell (by simp) _, hd'.out.set 13 _⟩
  · go_enter Try.func50, Try.ntmps50
    have hne : decide (0 ≤ f ∧ f < 4) = false := by simpa using h1
    have hr : tryRes d.fail f = (1, d.fail) := by simp [tryRes, h1]
    have hR := Lib.hid hr
    clear hr
    go_wp2_with ((with_reducible refine (has_any f _).mono ?_); rintro e w' ⟨rfl, rfl⟩)
    go_ret
    rw [hR.out]
    exact ⟨rfl, Upd.refl _ _, hd'.out⟩

theorem settle_any (d : DiskS) (f : Nat) (s : ByteArray) (w : World) (b : Nat) (hd : DiskAt w b d) (hf : f < 4) :
    Calls Try.prog 51 #[.pointer (some ⟨b, 0, none⟩), .int .i64 f, .string s] w fun e w' => e = .returned (.tuple #[]) ∧ Upd [b] w w' ∧ DiskAt w' b (d.set f ⟨s, s, false⟩) := by
  have hc := hd.cell
  have hz := hd.frozen
  have hlt := hd.lt
  simp only [DiskS.cells] at hc
  have hd' := Lib.hid hd
  clear hd
  match f, hf with
  | 0, _ =>
    go_enter Try.func51, Try.ntmps51
    go_wp2
    go_end0
    exact ⟨rfl, (((Upd.refl _ _).setCell (by simp) _).setCell (by simp) _).setCell (by simp) _, ((hd'.out.set 0 _).set 1 _).set 2 _⟩
  | 1, _ =>
    go_enter Try.func51, Try.ntmps51
    go_wp2
    go_end0
    exact ⟨rfl, (((Upd.refl _ _).setCell (by simp) _).setCell (by simp) _).setCell (by simp) _, ((hd'.out.set 3 _).set 4 _).set 5 _⟩
  | 2, _ =>
    go_enter Try.func51, Try.ntmps51
    go_wp2
    go_end0
    exact ⟨rfl, (((Upd.refl _ _).setCell (by simp) _).setCell (by simp) _).setCell (by simp) _, ((hd'.out.set 6 _).set 7 _).set 8 _⟩
  | 3, _ =>
    go_enter Try.func51, Try.ntmps51
    go_wp2
    go_end0
    exact ⟨rfl, (((Upd.refl _ _).setCell (by simp) _).setCell (by simp) _).setCell (by simp) _, ((hd'.out.set 9 _).set 10 _).set 11 _⟩

def DiskS.usedTo (d : DiskS) (k : Int) : Nat :=
  if k = 0 then 0 else if k = 1 then d.f0.weight else if k = 2 then d.f0.weight + d.f1.weight else if k = 3 then d.f0.weight + d.f1.weight + d.f2.weight else d.used

theorem array_index (f0 f1 f2 f3 : FileS) (w : World) :
    (Instr.index 90 (.agg #[.string f0.now, .string f0.sure, .bool f0.put, .string f1.now, .string f1.sure, .bool f1.put, .string f2.now, .string f2.sure, .bool f2.put, .string f3.now, .string f3.sure, .bool f3.put]) (.int .i64 0)).run Try.prog w = .ok (.agg #[.string f0.now, .string f0.sure, .bool f0.put]) w ∧
    (Instr.index 90 (.agg #[.string f0.now, .string f0.sure, .bool f0.put, .string f1.now, .string f1.sure, .bool f1.put, .string f2.now, .string f2.sure, .bool f2.put, .string f3.now, .string f3.sure, .bool f3.put]) (.int .i64 1)).run Try.prog w = .ok (.agg #[.string f1.now, .string f1.sure, .bool f1.put]) w ∧
    (Instr.index 90 (.agg #[.string f0.now, .string f0.sure, .bool f0.put, .string f1.now, .string f1.sure, .bool f1.put, .string f2.now, .string f2.sure, .bool f2.put, .string f3.now, .string f3.sure, .bool f3.put]) (.int .i64 2)).run Try.prog w = .ok (.agg #[.string f2.now, .string f2.sure, .bool f2.put]) w ∧
    (Instr.index 90 (.agg #[.string f0.now, .string f0.sure, .bool f0.put, .string f1.now, .string f1.sure, .bool f1.put, .string f2.now, .string f2.sure, .bool f2.put, .string f3.now, .string f3.sure, .bool f3.put]) (.int .i64 3)).run Try.prog w = .ok (.agg #[.string f3.now, .string f3.sure, .bool f3.put]) w := by
  refine ⟨?_, ?_, ?_, ?_⟩ <;> kernel_rfl

set_option maxHeartbeats 400000 in
theorem used_any (d : DiskS) (w : World) (b : Nat) (hd : DiskAt w b d) (hs : d.small) :
    Calls Try.prog 24 #[.pointer (some ⟨b, 0, none⟩)] w fun e w' => e = .returned (.int .i64 (d.used : Int)) ∧ Upd [] w w' := by
  have hc := hd.cell
  have hlt := hd.lt
  simp only [DiskS.cells] at hc
  clear hd
  obtain ⟨⟨s00, s01⟩, ⟨s10, s11⟩, ⟨s20, s21⟩, ⟨s30, s31⟩⟩ := hs
  have i0 := fun w => (array_index d.f0 d.f1 d.f2 d.f3 w).1
  have i1 := fun w => (array_index d.f0 d.f1 d.f2 d.f3 w).2.1
  have i2 := fun w => (array_index d.f0 d.f1 d.f2 d.f3 w).2.2.1
  have i3 := fun w => (array_index d.f0 d.f1 d.f2 d.f3 w).2.2.2
  go_enter Try.func24, Try.ntmps24
  go_wp2
  go_loopw [3, 5, 10] (fun n _ i wr => ∃ (k : Int) (m : Nat), 0 ≤ k ∧ k ≤ 4 ∧ i = .int .i64 k ∧ n = .int .i64 m ∧ m ≤ k.toNat * 1099511627776 ∧ Hid (m = d.usedTo k) ∧ Upd [] w wr) (fun _ _ i _ => 4 - (intOf i).toNat)
  case atStart => exact ⟨0, 0, by omega, by omega, rfl, rfl, by omega, rfl, Upd.refl _ _⟩
  case round =>
    obtain ⟨k, m, hk0, hk, rfl, rfl, hm, hH, hu⟩ := hrel
    have hu' := Lib.hid hu
    clear hu
    rcases (by omega : k = 0 ∨ k = 1 ∨ k = 2 ∨ k = 3 ∨ k = 4) with rfl | rfl | rfl | rfl | rfl
    · go_wp2_with ((with_reducible refine (weight_any d.f0.now d.f0.sure d.f0.put _ s00 s01).mono ?_); rintro e w1 ⟨rfl, hu1⟩)
      go_roundw
      case rel => exact ⟨1, m + d.f0.weight, by omega, by omega, rfl, by unfold FileS.weight; go_num, by unfold FileS.weight; omega, by have := hH.out; simp [DiskS.usedTo] at this ⊢; subst this; rfl, (hu'.out.trans ((Upd.refl _ _).alloc _)).trans hu1⟩
      case measure => simp [intOf]
    · go_wp2_with ((with_reducible refine (weight_any d.f1.now d.f1.sure d.f1.put _ s10 s11).mono ?_); rintro e w1 ⟨rfl, hu1⟩)
      go_roundw
      case rel => exact ⟨2, m + d.f1.weight, by omega, by omega, rfl, by unfold FileS.weight; go_num, by unfold FileS.weight; omega, by have := hH.out; simp [DiskS.usedTo] at this ⊢; subst this; rfl, (hu'.out.trans ((Upd.refl _ _).alloc _)).trans hu1⟩
      case measure => simp [intOf]
    · go_wp2_with ((with_reducible refine (weight_any d.f2.now d.f2.sure d.f2.put _ s20 s21).mono ?_); rintro e w1 ⟨rfl, hu1⟩)
      go_roundw
      case rel => exact ⟨3, m + d.f2.weight, by omega, by omega, rfl, by unfold FileS.weight; go_num, by unfold FileS.weight; omega, by have := hH.out; simp [DiskS.usedTo] at this ⊢; subst this; rfl, (hu'.out.trans ((Upd.refl _ _).alloc _)).trans hu1⟩
      case measure => simp [intOf]
    · go_wp2_with ((with_reducible refine (weight_any d.f3.now d.f3.sure d.f3.put _ s30 s31).mono ?_); rintro e w1 ⟨rfl, hu1⟩)
      go_roundw
      case rel => exact ⟨4, m + d.f3.weight, by omega, by omega, rfl, by unfold FileS.weight; go_num, by unfold FileS.weight; omega, by have := hH.out; simp [DiskS.usedTo] at this ⊢; subst this; rfl, (hu'.out.trans ((Upd.refl _ _).alloc _)).trans hu1⟩
      case measure => simp [intOf]
    · go_wp2
      go_ret
      exact ⟨ret_int (by have := hH.out; simp [DiskS.usedTo] at this; omega), hu'.out⟩

end Go.Proofs.Ytjaoiaknglnomaa
