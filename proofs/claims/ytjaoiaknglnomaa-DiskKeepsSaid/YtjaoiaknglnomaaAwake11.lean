/-
  The fixed fact of layer 11 (chatelainelaw11.awake), walked: it holds. No condition.
-/
import Derived.Test.YtjaoiaknglnomaaDo11
set_option linter.unusedVariables false
set_option linter.unusedSimpArgs false
set_option maxRecDepth 100000
namespace Go.Proofs.Ytjaoiaknglnomaa
open Go.RowKit

def aw0 : DiskS := ⟨⟨⟨#[]⟩, ⟨#[]⟩, false⟩, ⟨⟨#[]⟩, ⟨#[]⟩, false⟩, ⟨⟨#[]⟩, ⟨#[]⟩, false⟩, ⟨⟨#[]⟩, ⟨#[]⟩, false⟩, 100, 0⟩
def aw1 : DiskS := { aw0 with f0 := ⟨⟨#[97, 98]⟩, ⟨#[]⟩, false⟩ }
def aw2 : DiskS := { aw0 with f0 := ⟨⟨#[97, 98]⟩, ⟨#[97, 98]⟩, false⟩ }
def aw3 : DiskS := { aw0 with f0 := ⟨⟨#[97, 98, 99, 100]⟩, ⟨#[97, 98]⟩, false⟩ }
def aw4 : DiskS := { aw0 with f0 := ⟨⟨#[97, 98, 99]⟩, ⟨#[97, 98, 99]⟩, false⟩ }
theorem aw01 : aw0.appendIt 0 ⟨#[97, 98]⟩ = (0, aw1) := by kernel_rfl
theorem aw12 : aw1.syncIt 0 = (0, aw2) := by kernel_rfl
theorem aw23 : aw2.appendIt 0 ⟨#[99, 100]⟩ = (0, aw3) := by kernel_rfl
theorem aw34 : aw3.crashIt [1] = aw4 := by kernel_rfl
theorem awr : aw4.readIt 0 = (⟨#[97, 98, 99]⟩, 0) := by kernel_rfl

theorem aw_fine (d : DiskS) (h : d = aw0 ∨ d = aw1 ∨ d = aw2 ∨ d = aw3) : d.fine ∧ d.ok := by
  have h8 : (⟨#[97, 98]⟩ : ByteArray).size = 2 := rfl
  have h9 : (⟨#[97, 98, 99, 100]⟩ : ByteArray).size = 4 := rfl
  have h0 : (⟨#[]⟩ : ByteArray).size = 0 := rfl
  rcases h with rfl | rfl | rfl | rfl
  all_goals
    refine ⟨⟨⟨⟨?_, ?_⟩, ⟨?_, ?_⟩, ⟨?_, ?_⟩, ⟨?_, ?_⟩⟩, ?_, ?_, ?_⟩, fun i => ?_⟩
    all_goals first
      | (simp only [aw0, aw1, aw2, aw3, h8, h9, h0]; omega)
      | (match i with
         | 0 => exact fun _ => by simp only [aw0, aw1, aw2, aw3, DiskS.get, h8, h9, h0]; omega
         | 1 => exact fun _ => by simp only [aw0, aw1, aw2, aw3, DiskS.get, h8, h9, h0]; omega
         | 2 => exact fun _ => by simp only [aw0, aw1, aw2, aw3, DiskS.get, h8, h9, h0]; omega
         | _ + 3 => exact fun _ => by simp only [aw0, aw1, aw2, aw3, DiskS.get, h8, h9, h0]; omega)

set_option maxHeartbeats 1000000 in
theorem awake_any (w : World) : Calls Try.prog 14 #[] w fun e w' => e = .returned (.bool true) ∧ Upd [] w w' := by
  go_enter Try.func14, Try.ntmps14
  go_wp2_with fail
  refine (new_any 100 w).mono ?_
  rintro e w1 ⟨b, rfl, hb, hu1, hd1⟩
  have hd1 : DiskAt w1 b aw0 := hd1
  have HB := hd hb
  have HU1 := hd hu1
  have HD1 := hd hd1
  clear hb hu1 hd1
  go_wp2_with fail
  refine (append_any aw0 0 ⟨#[97, 98]⟩ _ b HD1.out (aw_fine _ (by simp)).1 (by decide)).mono ?_
  rintro e w2 ⟨rfl, hu2, hd2⟩
  rw [aw01] at hd2 ⊢
  have HU2 := hd hu2
  have HD2 := hd hd2
  clear hu2 hd2
  go_wp2_with fail
  refine (sync_any aw1 0 _ b HD2.out (aw_fine _ (by simp)).1).mono ?_
  rintro e w3 ⟨rfl, hu3, hd3⟩
  rw [aw12] at hd3 ⊢
  have HU3 := hd hu3
  have HD3 := hd hd3
  clear hu3 hd3
  go_wp2_with fail
  refine (append_any aw2 0 ⟨#[99, 100]⟩ _ b HD3.out (aw_fine _ (by simp)).1 (by decide)).mono ?_
  rintro e w4 ⟨rfl, hu4, hd4⟩
  rw [aw23] at hd4 ⊢
  have HU4 := hd hu4
  have HD4 := hd hd4
  clear hu4 hd4
  go_wp2_with fail
  have hl4 := HD4.out.lt
  refine (crash_any aw3 _ [1] _ b (HD4.out.alloc _) (aw_fine _ (by simp)).1.small (aw_fine _ (by simp)).2 ⟨_, _, rfl, by simp, by omega, fun _ => ⟨w4.heap.size, 0, rfl, by omega, by simp, fun i hi => by
    have : i = 0 := by simpa using hi
    subst this
    simp⟩⟩).mono ?_
  rintro e w5 ⟨rfl, hu5, hd5⟩
  rw [aw34] at hd5
  have HU5 := hd hu5
  have HD5 := hd hd5
  clear hu5 hd5
  go_wp2_with fail
  refine (read_any aw4 0 _ b HD5.out).mono ?_
  rintro e w6 ⟨rfl, hu6⟩
  rw [awr]
  have HU6 := hd hu6
  clear hu6
  go_wp2
  go_ret
  refine ⟨rfl, ?_⟩
  have hU : Upd [b] w1 w6 := (((HU2.out.trans HU3.out).trans HU4.out).trans (((Upd.refl _ _).alloc _).trans HU5.out)).trans (HU6.out.mono (by simp))
  exact HU1.out.trans' hU (by simpa using HB.out)
end Go.Proofs.Ytjaoiaknglnomaa
