/-
  Rows of cells that one owns: how they open, where they lie. No condition beyond those that each theorem states.
-/
import Derived.Test.YtfhmdeamhmjddaaDoorLaws
set_option linter.unusedVariables false
set_option linter.unusedSimpArgs false
namespace Go.Proofs.YtfhmdeamhmjddaaDoor
open Go.RowKit

theorem own_open {w : World} {B T sz : Nat} {v : Value} {n : Nat} {xs : List Value} (h : w.ownsRow B T sz v n xs) :
    ∃ a cap, v = .slice a n cap ∧ n ≤ cap ∧ cap ≤ maxLen ∧ (0 < n → ∃ g, a = some ⟨g, 0, none⟩ ∧ B ≤ g ∧ g < w.heap.size ∧ (∀ j, j < n * sz → w.cell? ⟨g, j, none⟩ = xs[j]?) ∧ (∀ j, w.frozen? ⟨g, j, none⟩ = false)) := by
  have hh := h
  obtain ⟨hl, h⟩ := h
  rcases h with ⟨rfl, rfl⟩ | ⟨g, cap, cur, rfl, hb, hg, hnc, hcm, hcs, ht⟩
  · exact ⟨none, 0, rfl, Nat.le_refl _, by unfold maxLen; omega, by omega⟩
  · refine ⟨_, cap, rfl, hnc, hcm, fun hn => ?_⟩
    obtain ⟨g', cap', e, h1, h2, h3, h4, h5⟩ := own_cases hh hn
    simp only [Value.slice.injEq, Option.some.injEq, Addr.mk.injEq, and_true, true_and] at e
    obtain ⟨rfl, rfl⟩ := e
    exact ⟨g, rfl, h1, h2, h4, h5⟩
theorem own_ge {w : World} {B T sz : Nat} {v : Value} {n : Nat} {xs : List Value} (h : w.ownsRow B T sz v n xs) : ∀ g, v.ownBlock = some g → B ≤ g ∧ g < w.heap.size := by
  intro g hg
  rcases h.2 with he | ⟨g', cap, cur, he, hb, hg', _⟩
  · rw [he.1] at hg; cases hg
  · rw [he] at hg
    simp only [Value.ownBlock, Option.some.injEq] at hg
    subst hg
    exact ⟨hb, Blk.lt hg'⟩
theorem own_open2 {w : World} {B T sz : Nat} {v : Value} {n : Nat} {xs : List Value} (h : w.ownsRow B T sz v n xs) :
    ∃ a cap, v = .slice a n cap ∧ n ≤ cap ∧ cap ≤ maxLen ∧ (a = none ∧ cap = 0 ∨ ∃ g, a = some ⟨g, 0, none⟩) := by
  rcases h.2 with ⟨rfl, rfl⟩ | ⟨g, cap, cur, rfl, hb, hg, hnc, hcm, hcs, ht⟩
  · exact ⟨none, 0, rfl, Nat.le_refl _, by unfold maxLen; omega, .inl ⟨rfl, rfl⟩⟩
  · exact ⟨_, cap, rfl, hnc, hcm, .inr ⟨g, rfl⟩⟩
theorem own_ne_any {w : World} {B T sz k T' : Nat} {c : Array Value} {v : Value} {n : Nat} {xs : List Value} (h : w.ownsRow B T sz v n xs) (hb : Blk w k c T') (hT : T ≠ T') : ∀ g, v.ownBlock = some g → g ≠ k := by
  intro g hg
  obtain ⟨a, cap, rfl, -⟩ := own_open h
  cases a with
  | none => cases hg
  | some ad =>
    rcases h.2 with ⟨he, _⟩ | ⟨g', cap', cur, he, hbb, hgg, _⟩
    · cases he
    · rw [he] at hg
      simp only [Value.ownBlock, Option.some.injEq] at hg
      subst hg
      rintro rfl
      rw [Blk, hgg] at hb
      simp only [Option.some.injEq, Obj.cells.injEq] at hb
      exact hT hb.2.1
theorem own_own {w : World} {B T sz B' T' sz' : Nat} {v v' : Value} {n n' : Nat} {xs xs' : List Value} (h : w.ownsRow B T sz v n xs) (h' : w.ownsRow B' T' sz' v' n' xs') (hT : T ≠ T') : ∀ g, v.ownBlock = some g → v'.ownBlock ≠ some g := by
  intro g hg hg'
  rcases h'.2 with ⟨rfl, _⟩ | ⟨g', cap, cur, rfl, hB, hb, _⟩
  · simp [Value.ownBlock] at hg'
  · have : g' = g := by simpa [Value.ownBlock] using hg'
    subst this
    exact own_ne_any h hb hT g' hg rfl
end Go.Proofs.YtfhmdeamhmjddaaDoor
