/-
  Paths are in order: plain laws; no program in sight.
-/
import Derived.Test.YtfhmdeamhmjddaaDoorPath7
set_option linter.unusedVariables false
set_option linter.unusedSimpArgs false
namespace Go.Proofs.YtfhmdeamhmjddaaDoor

theorem less_irrefl : ∀ x : List UInt8, Op.bytesLess x x = false
  | [] => rfl
  | a :: x => by simp [Op.bytesLess, less_irrefl x]
theorem less_trans : ∀ {x y z : List UInt8}, Op.bytesLess x y = true → Op.bytesLess y z = true → Op.bytesLess x z = true
  | _, [], _, h, _ => by simp [Op.bytesLess] at h
  | _, _ :: _, [], _, h => by simp [Op.bytesLess] at h
  | [], _ :: _, _ :: _, _, _ => rfl
  | a :: x, b :: y, c :: z, h1, h2 => by
    simp only [Op.bytesLess, Bool.or_eq_true, decide_eq_true_eq, Bool.and_eq_true, beq_iff_eq] at h1 h2 ⊢
    rcases h1 with h1 | ⟨rfl, h1⟩
    · rcases h2 with h2 | ⟨rfl, h2⟩
      · exact .inl (UInt8.lt_trans h1 h2)
      · exact .inl h1
    · rcases h2 with h2 | ⟨rfl, h2⟩
      · exact .inl h2
      · exact .inr ⟨rfl, less_trans h1 h2⟩
theorem less_total : ∀ {x y : List UInt8}, Op.bytesLess x y = false → Op.bytesLess y x = false → x = y
  | [], [], _, _ => rfl
  | [], _ :: _, h, _ => by simp [Op.bytesLess] at h
  | _ :: _, [], _, h => by simp [Op.bytesLess] at h
  | a :: x, b :: y, h1, h2 => by
    simp only [Op.bytesLess, Bool.or_eq_false_iff, decide_eq_false_iff_not, Bool.and_eq_false_iff, beq_eq_false_iff_ne, ne_eq] at h1 h2
    have hab : a = b := by
      have h3 := h1.1
      have h4 := h2.1
      rw [UInt8.lt_iff_toNat_lt] at h3 h4
      exact UInt8.toNat.inj (by omega)
    subst hab
    rcases h1.2 with h | h
    · exact absurd rfl h
    · rcases h2.2 with h' | h'
      · exact absurd rfl h'
      · rw [less_total h h']
theorem cmpS_cases (x y : List UInt8) : (cmpS x y = -1 ∧ Op.bytesLess x y = true) ∨ (cmpS x y = 0 ∧ x = y) ∨ (cmpS x y = 1 ∧ Op.bytesLess y x = true) := by
  unfold cmpS
  by_cases h : Op.bytesLess x y = true
  · exact .inl ⟨if_pos h, h⟩
  · rw [if_neg h]
    by_cases he : x = y
    · exact .inr (.inl ⟨if_pos he, he⟩)
    · rw [if_neg he]
      refine .inr (.inr ⟨rfl, ?_⟩)
      rcases hb : Op.bytesLess y x with _ | _
      · exact absurd (less_total (by simpa using h) hb) he
      · rfl
theorem less_asymm {x y : List UInt8} (h : Op.bytesLess x y = true) : Op.bytesLess y x = false := by
  rcases hb : Op.bytesLess y x with _ | _
  · rfl
  · have := less_trans h hb
    rw [less_irrefl] at this
    cases this
theorem cmpS_same (x : List UInt8) : cmpS x x = 0 := by unfold cmpS; rw [less_irrefl]; simp
theorem cmpS_less {x y : List UInt8} (h : Op.bytesLess x y = true) : cmpS x y = -1 := if_pos h
theorem cmpS_more {x y : List UInt8} (h : Op.bytesLess y x = true) : cmpS x y = 1 := by
  rcases cmpS_cases x y with ⟨_, h1⟩ | ⟨_, rfl⟩ | ⟨h1, _⟩
  · rw [less_asymm h] at h1; cases h1
  · rw [less_irrefl] at h; cases h
  · exact h1
theorem cmpS_anti (x y : List UInt8) : cmpS x y = - cmpS y x := by
  rcases cmpS_cases x y with ⟨h, h1⟩ | ⟨h, rfl⟩ | ⟨h, h1⟩
  · rw [h, cmpS_more h1]
  · rw [h]; rfl
  · rw [h, cmpS_less h1]; rfl
theorem cmpL_anti : ∀ a b : List (List UInt8), cmpL a b = - cmpL b a
  | [], [] => rfl
  | [], _ :: _ => rfl
  | _ :: _, [] => rfl
  | x :: a, y :: b => by
    unfold cmpL
    have h := cmpS_anti x y
    have ih := cmpL_anti a b
    by_cases h0 : cmpS x y = 0
    · rw [if_pos h0, if_pos (by omega), ih]
    · rw [if_neg h0, if_neg (by omega), h]
theorem cmpL_range : ∀ a b : List (List UInt8), -1 ≤ cmpL a b ∧ cmpL a b ≤ 1
  | [], [] => by decide
  | [], _ :: _ => by show (-1 : Int) ≤ -1 ∧ (-1 : Int) ≤ 1; decide
  | _ :: _, [] => by show (-1 : Int) ≤ 1 ∧ (1 : Int) ≤ 1; decide
  | x :: a, y :: b => by
    unfold cmpL
    by_cases h0 : cmpS x y = 0
    · rw [if_pos h0]; exact cmpL_range a b
    · rw [if_neg h0]
      rcases cmpS_cases x y with ⟨e, _⟩ | ⟨e, _⟩ | ⟨e, _⟩ <;> omega
theorem cmpL_trans : ∀ {a b c : List (List UInt8)}, cmpL a b ≤ 0 → cmpL b c ≤ 0 → cmpL a c ≤ 0
  | [], _, [], _, _ => by decide
  | [], _, _ :: _, _, _ => by show (-1 : Int) ≤ 0; decide
  | x :: a, [], _, h, _ => by have h : (1 : Int) ≤ 0 := h; omega
  | x :: a, y :: b, [], _, h => by have h : (1 : Int) ≤ 0 := h; omega
  | x :: a, y :: b, z :: c, h1, h2 => by
    unfold cmpL at h1 h2 ⊢
    rcases cmpS_cases x y with ⟨e1, l1⟩ | ⟨e1, rfl⟩ | ⟨e1, l1⟩
    · rw [if_neg (by omega)] at h1
      rcases cmpS_cases y z with ⟨e2, l2⟩ | ⟨e2, rfl⟩ | ⟨e2, l2⟩
      · have := cmpS_less (less_trans l1 l2)
        rw [if_neg (by omega)]; omega
      · rw [if_neg (by omega)]; omega
      · rw [if_neg (by omega)] at h2; omega
    · rw [if_pos e1] at h1
      rcases cmpS_cases x z with ⟨e2, l2⟩ | ⟨e2, rfl⟩ | ⟨e2, l2⟩
      · rw [if_neg (by omega)]; omega
      · rw [if_pos e2] at h2 ⊢
        exact cmpL_trans h1 h2
      · rw [if_neg (by omega)] at h2; omega
    · rw [if_neg (by omega)] at h1; omega
/-- What stands between parts and what is below them is below them, too. -/
theorem cmpL_between : ∀ {a b c : List (List UInt8)}, a <+: c → cmpL a b ≤ 0 → cmpL b c ≤ 0 → a <+: b
  | [], b, _, _, _, _ => List.nil_prefix
  | x :: a, [], _, _, h, _ => by have h : (1 : Int) ≤ 0 := h; omega
  | x :: a, y :: b, [], hp, _, _ => by simp at hp
  | x :: a, y :: b, z :: c, hp, h1, h2 => by
    obtain ⟨rfl, hq⟩ := List.cons_prefix_cons.1 hp
    unfold cmpL at h1 h2
    have h := cmpS_anti x y
    rcases cmpS_cases x y with ⟨e1, l1⟩ | ⟨e1, rfl⟩ | ⟨e1, l1⟩
    · rw [if_neg (by omega)] at h2; omega
    · rw [if_pos e1] at h1
      rw [if_pos e1] at h2
      exact List.cons_prefix_cons.2 ⟨rfl, cmpL_between hq h1 h2⟩
    · rw [if_neg (by omega)] at h1; omega
end Go.Proofs.YtfhmdeamhmjddaaDoor
