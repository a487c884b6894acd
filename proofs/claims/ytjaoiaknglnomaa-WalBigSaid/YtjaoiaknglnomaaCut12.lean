/-
  chatelainelaw01.Cut, walked; and a crash of a disk whose files are all sure: nothing is lost.
-/
import Derived.Test.YtjaoiaknglnomaaAwake12
set_option linter.unusedVariables false
set_option linter.unusedSimpArgs false
set_option maxRecDepth 100000
namespace Go.Proofs.Ytjaoiaknglnomaa
open Go.RowKit

theorem cut_any (s : List UInt8) (most : Nat) (w : World) (hs : s.length ≤ 9223372036854775807) (hm : most ≤ 1000000) :
    Calls Try.prog 29 #[.string (txt s), .int .i64 most] w fun x w' => x = .returned (.string (txt (s.take most))) ∧ w = w' := by
  by_cases h : most < s.length
  · have h' : (most : Int) < (s.length : Int) := by omega
    have hx := txt_head s most (by omega)
    go_enter Try.func29, Try.ntmps29
    go_wp2_with fail
    go_ret
    exact ⟨rfl, rfl⟩
  · have h' : ¬ (most : Int) < (s.length : Int) := by omega
    rw [List.take_of_length_le (by omega)]
    go_enter Try.func29, Try.ntmps29
    go_wp2_with fail
    go_ret
    exact ⟨rfl, rfl⟩

/-- All is sure. -/
def DiskS.calm (d : DiskS) : Prop := d.fail = 0 ∧ ∀ i, (d.get i).sure = (d.get i).now ∧ (d.get i).put = false
theorem calm_safe {f : FileS} (h : f.sure = f.now ∧ f.put = false) : f.safe = true ∧ (⟨f.now, f.now, false⟩ : FileS) = f := by
  obtain ⟨n, s, p⟩ := f
  simp only at h
  obtain ⟨h1, h2⟩ := h
  subst h1 h2
  exact ⟨by simp [FileS.safe], rfl⟩
theorem set_get (d : DiskS) (i : Nat) : d.set i (d.get i) = d := by
  match i with
  | 0 => rfl
  | 1 => rfl
  | 2 => rfl
  | n + 3 => rfl
theorem crash_calm (d : DiskS) (cs : List Int) (h : d.calm) : d.crashIt cs = d := by
  obtain ⟨h0, hg⟩ := h
  have e0 : ({ d with fail := 0 } : DiskS) = d := by obtain ⟨f0, f1, f2, f3, r, fl⟩ := d; simp only at h0; subst h0; rfl
  have key : ∀ k, crashTo d cs k = (d, cs) := by
    intro k
    induction k with
    | zero => unfold crashTo; rw [e0]
    | succ k ih =>
      obtain ⟨c1, c2⟩ := calm_safe (hg k)
      rw [crashTo, ih]
      unfold crashStep
      rw [if_pos c1, c2, set_get]
  unfold DiskS.crashIt
  rw [key]
theorem bare_calm (r : Int) : (bareD r).calm := ⟨rfl, fun i => by
  match i with
  | 0 => exact ⟨rfl, rfl⟩
  | 1 => exact ⟨rfl, rfl⟩
  | 2 => exact ⟨rfl, rfl⟩
  | n + 3 => exact ⟨rfl, rfl⟩⟩
theorem set_calm (d : DiskS) (i : Nat) (x : List UInt8) (h : d.calm) : (d.set i (sureF x)).calm := by
  obtain ⟨h0, hg⟩ := h
  refine ⟨by rw [(set_rest _ _ _).2]; exact h0, fun j => ?_⟩
  have g0 := hg 0
  have g1 := hg 1
  have g2 := hg 2
  have g3 := hg 3
  match i, j with
  | 0, 0 => exact ⟨rfl, rfl⟩
  | 0, 1 => exact g1
  | 0, 2 => exact g2
  | 0, n + 3 => exact g3
  | 1, 0 => exact g0
  | 1, 1 => exact ⟨rfl, rfl⟩
  | 1, 2 => exact g2
  | 1, n + 3 => exact g3
  | 2, 0 => exact g0
  | 2, 1 => exact g1
  | 2, 2 => exact ⟨rfl, rfl⟩
  | 2, n + 3 => exact g3
  | m + 3, 0 => exact g0
  | m + 3, 1 => exact g1
  | m + 3, 2 => exact g2
  | m + 3, n + 3 => exact ⟨rfl, rfl⟩
theorem wrote_calm (d : DiskS) (f v : Nat) (s : List UInt8) (h : d.calm) : (d.wrote f v s).calm := set_calm _ _ _ (set_calm _ _ _ h)
end Go.Proofs.Ytjaoiaknglnomaa
