/-
  Paths as lists of parts: the document's answers, in plain Lean; no program in sight.
-/
import Derived.Test.YtfhmdeamhmjddaaDoorTxt05
import Derived.Lib.SplitLaws
import Derived.Lib.CountLaws
import Derived.Lib.IndexBytes
set_option linter.unusedVariables false
set_option linter.unusedSimpArgs false
namespace Go.Proofs.YtfhmdeamhmjddaaDoor

/-- May a byte stand in a part? -/
def goodN (n : Nat) : Bool := decide (97 ≤ n ∧ n ≤ 122 ∨ 48 ≤ n ∧ n ≤ 57 ∨ n = 45 ∨ n = 95)
def partL (s : List UInt8) : Bool := s.all (fun c => goodN c.toNat) && (decide (s ≠ []) && decide (s.length ≤ 16))
/-- The text of parts. -/
def textL : List (List UInt8) → List UInt8
  | [] => []
  | x :: r => 47 :: x ++ textL r
def madeL (l : List (List UInt8)) : Bool := l.all partL && decide (l.length ≤ 6)
/-- A text parted at each slash. -/
def splitL : List UInt8 → List (List UInt8)
  | [] => [[]]
  | c :: r => if c = 47 then [] :: splitL r else match splitL r with
    | [] => [[c]]
    | h :: t => (c :: h) :: t
/-- The parts of a text. -/
def parse5 (s : List UInt8) : Option (List (List UInt8)) :=
  if s = [47] then some [] else match s with
  | [] => none
  | c :: r => if c = 47 ∧ madeL (splitL r) = true then some (splitL r) else none

theorem splitL_cons (c : UInt8) (r : List UInt8) : splitL (c :: r) = if c = 47 then [] :: splitL r else match splitL r with
    | [] => [[c]]
    | h :: t => (c :: h) :: t := rfl
theorem splitL_ne (l : List UInt8) : splitL l ≠ [] := by
  cases l with
  | nil => simp [splitL]
  | cons c r =>
    unfold splitL
    split
    · simp
    · split <;> simp
theorem splitL_none {l : List UInt8} (h : (47 : UInt8) ∉ l) : splitL l = [l] := by
  induction l with
  | nil => rfl
  | cons c r ih =>
    simp only [List.mem_cons, not_or] at h
    unfold splitL
    rw [if_neg (fun e => h.1 e.symm), ih h.2]
theorem splitL_cut {a r : List UInt8} (h : (47 : UInt8) ∉ a) : splitL (a ++ 47 :: r) = a :: splitL r := by
  induction a with
  | nil => simp [splitL]
  | cons c a ih =>
    simp only [List.mem_cons, not_or] at h
    rw [List.cons_append, splitL_cons, if_neg (fun e => h.1 e.symm), ih h.2]
theorem text_split (r : List UInt8) : textL (splitL r) = 47 :: r := by
  induction r with
  | nil => rfl
  | cons c r ih =>
    unfold splitL
    split
    · rename_i h
      subst h
      show 47 :: [] ++ textL (splitL r) = _
      rw [ih]; rfl
    · generalize hs : splitL r = q at *
      cases q with
      | nil => exact absurd hs (splitL_ne r)
      | cons x t =>
        simp only [textL, List.cons_append, List.cons.injEq, true_and] at ih ⊢
        exact ih
/-- The first slash. -/
theorem first_cut (l : List UInt8) : (47 : UInt8) ∉ l ∨ ∃ a r, l = a ++ 47 :: r ∧ (47 : UInt8) ∉ a := by
  induction l with
  | nil => exact .inl (by simp)
  | cons c l ih =>
    by_cases hc : c = 47
    · subst hc
      exact .inr ⟨[], l, rfl, by simp⟩
    · rcases ih with h | ⟨a, r, rfl, ha⟩
      · exact .inl (by simp only [List.mem_cons, not_or]; exact ⟨fun e => hc e.symm, h⟩)
      · exact .inr ⟨c :: a, r, rfl, by simp only [List.mem_cons, not_or]; exact ⟨fun e => hc e.symm, ha⟩⟩
theorem index_none {l : List UInt8} (h : (47 : UInt8) ∉ l) : Lib.indexByte l 47 = -1 := by
  induction l with
  | nil => rfl
  | cons c l ih =>
    simp only [List.mem_cons, not_or] at h
    unfold Lib.indexByte
    rw [if_neg (by simpa using fun e => h.1 e.symm), ih h.2]
    rfl
theorem drop_cut (a r : List UInt8) : (a ++ 47 :: r).drop (a.length + 1) = r := by
  rw [show a ++ 47 :: r = (a ++ [47]) ++ r by simp, List.drop_left' (by simp)]
theorem index_cut {a r : List UInt8} (h : (47 : UInt8) ∉ a) : Lib.indexByte (a ++ 47 :: r) 47 = a.length := by
  induction a with
  | nil => simp [Lib.indexByte]
  | cons c a ih =>
    simp only [List.mem_cons, not_or] at h
    rw [List.cons_append]
    unfold Lib.indexByte
    rw [if_neg (by simpa using fun e => h.1 e.symm), ih h.2, if_neg (by simp)]
    simp
theorem txt_cut0 (a r : List UInt8) : (txt (a ++ r)).extract 0 a.length = txt a := by rw [txt_head _ _ (by simp), List.take_left]
theorem splitB_txt : ∀ (k : Nat) (l : List UInt8), l.count 47 = k → Lib.splitB ⟨#[47]⟩ 0 k (txt l) = (splitL l).map txt := by
  intro k
  induction k with
  | zero =>
    intro l hl
    have hn : (47 : UInt8) ∉ l := fun hm => by have := List.count_pos_iff.2 hm; omega
    rw [splitL_none hn]
    rfl
  | succ k ih =>
    intro l hl
    rcases first_cut l with hn | ⟨a, r, rfl, ha⟩
    · rw [List.count_eq_zero.2 hn] at hl
      omega
    · have hi : Lib.indexB (txt (a ++ 47 :: r)) ⟨#[47]⟩ = (a.length : Int) := by
        show Lib.index (a ++ 47 :: r) [47] = _
        rw [Lib.index_one, index_cut ha]
      have hk : r.count 47 = k := by
        rw [List.count_append, List.count_eq_zero.2 ha, List.count_cons_self] at hl
        omega
      unfold Lib.splitB
      rw [hi, if_neg (by simp), splitL_cut ha, List.map_cons, ← ih r hk]
      congr 1
      · simpa using txt_cut0 a (47 :: r)
      · congr 1
        have h1 : (txt (a ++ 47 :: r)).size = (a ++ 47 :: r).length := txt_size _
        rw [h1]
        show (txt (a ++ 47 :: r)).extract (a.length + 1) (a ++ 47 :: r).length = _
        rw [txt_tail]
        rw [drop_cut]
theorem splitL_length (l : List UInt8) : (splitL l).length = l.count 47 + 1 := by
  induction l with
  | nil => rfl
  | cons c r ih =>
    unfold splitL
    split
    · rename_i h
      subst h
      rw [List.length_cons, ih, List.count_cons_self]
    · rename_i h
      rw [List.count_cons_of_ne h]
      generalize hs : splitL r = q at *
      cases q with
      | nil => exact absurd hs (splitL_ne r)
      | cons x t => simpa using ih
theorem countB_txt (l : List UInt8) : Lib.countB (txt l) ⟨#[47]⟩ = l.count 47 := Lib.count_one 47 l
end Go.Proofs.YtfhmdeamhmjddaaDoor
