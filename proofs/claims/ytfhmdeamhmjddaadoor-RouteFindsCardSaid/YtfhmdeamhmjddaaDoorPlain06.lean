/-
  The plain law of RouteOne: at most one subtree holds a path; paths in line lie in the same one.
-/
import Derived.Test.YtfhmdeamhmjddaaDoorRoute2
set_option linter.unusedVariables false
set_option linter.unusedSimpArgs false
namespace Go.Proofs.YtfhmdeamhmjddaaDoor
open Go.RowKit

theorem findIdx_neg (p : List UInt8 → Bool) : ∀ l : List (List UInt8), findIdx p l < 0 → ∀ x ∈ l, p x = false
  | [], _, x, hx => by cases hx
  | y :: l, h, x, hx => by
    have hr := findIdx_range p l
    unfold findIdx at h
    split at h
    · omega
    · rename_i hy
      split at h
      · rename_i hl
        rcases List.mem_cons.1 hx with rfl | hx
        · simpa using hy
        · exact findIdx_neg p l (by omega) x hx
      · omega
theorem findIdx_get (p : List UInt8 → Bool) : ∀ l : List (List UInt8), 0 ≤ findIdx p l → ∃ t, ∃ h : t < l.length, findIdx p l = t ∧ p l[t] = true
  | [], h => by exact absurd h (by show ¬ (0 : Int) ≤ -1; decide)
  | y :: l, h => by
    have hr := findIdx_range p l
    unfold findIdx at h ⊢
    split at h
    · rename_i hy
      rw [if_pos hy]
      exact ⟨0, by simp, rfl, hy⟩
    · rename_i hy
      rw [if_neg hy]
      split at h
      · omega
      · rename_i hl
        rw [if_neg hl]
        obtain ⟨t, ht, he, hp⟩ := findIdx_get p l (by omega)
        exact ⟨t + 1, by simpa using ht, by rw [he]; simp, by simpa using hp⟩
theorem countP_one {α : Type} (p : α → Bool) : ∀ l : List α, (∀ i j (hi : i < l.length) (hj : j < l.length), i < j → p l[i] = true → p l[j] = true → False) → (l.countP p = 0 ∧ ∀ x ∈ l, p x = false) ∨ (l.countP p = 1 ∧ ∃ x ∈ l, p x = true)
  | [], _ => .inl ⟨rfl, fun x hx => by cases hx⟩
  | y :: l, h => by
    have ih := countP_one p l (fun i j hi hj hij h1 h2 => h (i + 1) (j + 1) (by simpa using hi) (by simpa using hj) (by omega) (by simpa using h1) (by simpa using h2))
    cases hy : p y with
    | false =>
      rw [List.countP_cons_of_neg (by simp [hy])]
      rcases ih with ⟨h1, h2⟩ | ⟨h1, x, h2, h3⟩
      · refine .inl ⟨h1, fun x hx => ?_⟩
        rcases List.mem_cons.1 hx with rfl | hx
        · exact hy
        · exact h2 x hx
      · exact .inr ⟨h1, x, List.mem_cons_of_mem _ h2, h3⟩
    | true =>
      rw [List.countP_cons_of_pos (by simp [hy])]
      rcases ih with ⟨h1, h2⟩ | ⟨h1, x, h2, h3⟩
      · exact .inr ⟨by omega, y, by simp, hy⟩
      · obtain ⟨j, hj, rfl⟩ := List.mem_iff_getElem.1 h2
        exact (h 0 (j + 1) (by simp) (by simpa using hj) (by omega) (by simpa using hy) (by simpa using h3)).elim
theorem parseAll_clean : ∀ {l : List (List UInt8)} {ps : List (List (List UInt8))}, parseAll l = some ps → ∀ p ∈ ps, Clean p
  | [], ps, h, p, hp => by cases h; cases hp
  | s :: l, ps, h, p, hp => by
    unfold parseAll at h
    split at h
    · cases h
    · rename_i q hq
      split at h
      · cases h
      · rename_i r hr
        cases h
        rcases List.mem_cons.1 hp with rfl | hp
        · have h1 := (parse5_inv hq).1
          unfold madeL at h1
          simp only [Bool.and_eq_true, decide_eq_true_eq, List.all_eq_true] at h1
          exact clean_of (fun x hx => h1.1 x hx)
        · exact parseAll_clean hr p hp
/-- A table with no clash, of clean paths. -/
structure Apart (L : List (List UInt8)) : Prop where
  uniq : ∀ (P : List (List UInt8)), Clean P → ∀ i j (hi : i < L.length) (hj : j < L.length), overT L[i] (textL P) = true → overT L[j] (textL P) = true → i = j
  clean : ∀ x ∈ L, ∃ p, Clean p ∧ x = textL p
theorem apart_of {ps : List (List (List UInt8))} (hc : ∀ p ∈ ps, Clean p) (hn : ¬ clashTo (ps.map textL) ps.length) : Apart (ps.map textL) := by
  have key : ∀ (P : List (List UInt8)), Clean P → ∀ i j (hi : i < (ps.map textL).length) (hj : j < (ps.map textL).length), i < j → overT (ps.map textL)[i] (textL P) = true → overT (ps.map textL)[j] (textL P) = true → False := by
    intro P hP i j hi hj hij h1 h2
    have hji : j < ps.length := by simpa using hj
    have hii : i < ps.length := by omega
    have hcl : ¬ clashAt (ps.map textL) j := fun h => hn ⟨j, hji, h⟩
    unfold clashAt at hcl
    have h3 := findIdx_neg _ _ (Int.not_le.1 hcl) (textL ps[i]) (List.mem_iff_getElem.2 ⟨i, by simp; omega, by simp⟩)
    have e1 : (ps.map textL).getD j [] = textL ps[j] := by simp [List.getD_eq_getElem?_getD, hji]
    rw [e1] at h3
    rw [List.getElem_map] at h1 h2
    have ci := hc ps[i] (List.getElem_mem _)
    have cj := hc ps[j] (List.getElem_mem _)
    rw [overT_parts ci hP, List.isPrefixOf_iff_prefix] at h1
    rw [overT_parts cj hP, List.isPrefixOf_iff_prefix] at h2
    rw [overT_parts ci cj, overT_parts cj ci, Bool.or_eq_false_iff] at h3
    rcases List.prefix_or_prefix_of_prefix h1 h2 with h | h
    · have := List.isPrefixOf_iff_prefix.2 h
      rw [this] at h3
      simp at h3
    · have := List.isPrefixOf_iff_prefix.2 h
      rw [this] at h3
      simp at h3
  refine ⟨fun P hP i j hi hj h1 h2 => ?_, fun x hx => ?_⟩
  · rcases Nat.lt_trichotomy i j with h | h | h
    · exact (key P hP i j hi hj h h1 h2).elim
    · exact h
    · exact (key P hP j i hj hi h h2 h1).elim
  · obtain ⟨p, hp, rfl⟩ := List.mem_map.1 hx
    exact ⟨p, hc p hp, rfl⟩
theorem Apart.count {L : List (List UInt8)} (h : Apart L) {P : List (List UInt8)} (hP : Clean P) :
    (L.countP (fun x => overT x (textL P)) = 0 ∧ findIdx (fun x => overT x (textL P)) L = -1) ∨ (L.countP (fun x => overT x (textL P)) = 1 ∧ 0 ≤ findIdx (fun x => overT x (textL P)) L) := by
  have hr := findIdx_range (fun x => overT x (textL P)) L
  rcases countP_one (fun x => overT x (textL P)) L (fun i j hi hj hij h1 h2 => by have := h.uniq P hP i j hi hj h1 h2; omega) with ⟨h1, h2⟩ | ⟨h1, x, h2, h3⟩
  · exact .inl ⟨h1, findIdx_miss _ _ h2⟩
  · refine .inr ⟨h1, ?_⟩
    rcases (by omega : findIdx (fun x => overT x (textL P)) L < 0 ∨ 0 ≤ findIdx (fun x => overT x (textL P)) L) with h4 | h4
    · have := findIdx_neg _ _ h4 x h2
      have h5 : overT x (textL P) = false := this
      have h6 : overT x (textL P) = true := h3
      rw [h5] at h6
      cases h6
    · exact h4
theorem Apart.line {L : List (List UInt8)} (h : Apart L) {P Q : List (List UInt8)} (hP : Clean P) (hQ : Clean Q) (h1 : 0 ≤ findIdx (fun x => overT x (textL P)) L) (h2 : 0 ≤ findIdx (fun x => overT x (textL Q)) L)
    (hl : (overT (textL P) (textL Q) || overT (textL Q) (textL P)) = true) : findIdx (fun x => overT x (textL P)) L = findIdx (fun x => overT x (textL Q)) L := by
  obtain ⟨i, hi, ei, pi⟩ := findIdx_get _ _ h1
  obtain ⟨j, hj, ej, pj⟩ := findIdx_get _ _ h2
  rw [ei, ej]
  obtain ⟨p, hp, ep⟩ := h.clean L[i] (List.getElem_mem _)
  obtain ⟨q, hq, eq⟩ := h.clean L[j] (List.getElem_mem _)
  have pi' := pi
  have pj' := pj
  rw [ep, overT_parts hp hP, List.isPrefixOf_iff_prefix] at pi'
  rw [eq, overT_parts hq hQ, List.isPrefixOf_iff_prefix] at pj'
  rw [overT_parts hP hQ, overT_parts hQ hP, Bool.or_eq_true, List.isPrefixOf_iff_prefix, List.isPrefixOf_iff_prefix] at hl
  have : i = j := by
    rcases hl with hl | hl
    · refine h.uniq Q hQ i j hi hj ?_ pj
      rw [ep, overT_parts hp hQ, List.isPrefixOf_iff_prefix]
      exact pi'.trans hl
    · refine h.uniq P hP i j hi hj pi ?_
      rw [eq, overT_parts hq hP, List.isPrefixOf_iff_prefix]
      exact pj'.trans hl
  rw [this]
theorem newR_apart {l : List (List UInt8)} {ps : List (List (List UInt8))} (h : newR l = .ok ps) : Apart (ps.map textL) := by
  unfold newR at h
  split at h
  · cases h
  · cases hp : parseAll l with
    | none => rw [hp] at h; cases h
    | some qs =>
      rw [hp] at h
      by_cases hc : clashTo (qs.map textL) qs.length
      · rw [newP_bad hc] at h; cases h
      · rw [newP_ok hc] at h
        cases h
        exact apart_of (parseAll_clean hp) hc
theorem newR_bad {l : List (List UInt8)} {e : List (Int × List UInt8)} (h : newR l = .bad e) : e ≠ [] := by
  unfold newR at h
  split at h
  · cases h; simp
  · cases hp : parseAll l with
    | none => rw [hp] at h; cases h; simp
    | some qs =>
      rw [hp] at h
      by_cases hc : clashTo (qs.map textL) qs.length
      · rw [newP_bad hc] at h; cases h; simp [noRoute]
      · rw [newP_ok hc] at h; cases h
theorem newR_few {l : List (List UInt8)} {ps : List (List (List UInt8))} (h : newR l = .ok ps) : ps.length ≤ 4 := by
  have key : ∀ {l : List (List UInt8)} {ps : List (List (List UInt8))}, parseAll l = some ps → ps.length = l.length := by
    intro l
    induction l with
    | nil => intro ps h; cases h; rfl
    | cons s l ih =>
      intro ps h
      unfold parseAll at h
      split at h
      · cases h
      · split at h
        · cases h
        · rename_i r hr
          cases h
          simp [ih hr]
  unfold newR at h
  split at h
  · cases h
  · rename_i hl
    cases hp : parseAll l with
    | none => rw [hp] at h; cases h
    | some qs =>
      rw [hp] at h
      by_cases hc : clashTo (qs.map textL) qs.length
      · rw [newP_bad hc] at h; cases h
      · rw [newP_ok hc] at h
        cases h
        have := key hp
        omega
theorem newR_lit : newR [[47, 97], [47, 98, 47, 99]] = .ok [[[97]], [[98], [99]]] := by
  have h1 : parseAll [[47, 97], [47, 98, 47, 99]] = some [[[97]], [[98], [99]]] := by decide
  unfold newR
  rw [if_neg (by decide), h1]
  refine newP_ok ?_
  rintro ⟨i, hi, h⟩
  have h2 : i = 0 ∨ i = 1 := by simp at hi; omega
  unfold clashAt at h
  rcases h2 with rfl | rfl
  · revert h; decide
  · revert h; decide
end Go.Proofs.YtfhmdeamhmjddaaDoor
