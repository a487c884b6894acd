/-
  The plain law of RouteFinds: the program's table and the reference's agree.
-/
import Derived.Test.YtfhmdeamhmjddaaDoorPlain06
import Derived.Test.YtfhmdeamhmjddaaDoorRoute6
set_option linter.unusedVariables false
set_option linter.unusedSimpArgs false
namespace Go.Proofs.YtfhmdeamhmjddaaDoor
open Go.RowKit

theorem parseAll_texts : ∀ {l : List (List UInt8)} {ps : List (List (List UInt8))}, parseAll l = some ps → ps.length = l.length ∧ ∀ i (h : i < ps.length) (h' : i < l.length), (if textL ps[i] = [] then [47] else textL ps[i]) = l[i]
  | [], ps, h => by cases h; exact ⟨rfl, fun i h => by simp at h⟩
  | s :: l, ps, h => by
    unfold parseAll at h
    split at h
    · cases h
    · rename_i q hq
      split at h
      · cases h
      · rename_i r hr
        cases h
        obtain ⟨h1, h2⟩ := parseAll_texts hr
        refine ⟨by simp [h1], fun i hi hi' => ?_⟩
        cases i with
        | zero => exact (parse5_inv hq).2.1
        | succ i => exact h2 i (by simpa using hi) (by simpa using hi')
theorem clash_line {ps : List (List (List UInt8))} (hc : ∀ p ∈ ps, Clean p) : clashTo (ps.map textL) ps.length ↔ ¬ refOk ps ps.length := by
  have hline : ∀ i j (hi : i < ps.length) (hj : j < ps.length), i ≠ j → lineAt ps i j = overT (textL ps[i]) (textL ps[j]) := by
    intro i j hi hj hij
    rw [overT_parts (hc _ (List.getElem_mem _)) (hc _ (List.getElem_mem _))]
    unfold lineAt
    rw [List.getD_eq_getElem?_getD, List.getElem?_eq_getElem hi, List.getD_eq_getElem?_getD, List.getElem?_eq_getElem hj]
    simp [hij]
  constructor
  · rintro ⟨j, hj, h⟩ hok
    unfold clashAt at h
    obtain ⟨i, hi, -, hp⟩ := findIdx_get _ _ h
    simp only [List.length_take, List.length_map] at hi
    have e1 : (ps.map textL).getD j [] = textL ps[j] := by simp [List.getD_eq_getElem?_getD, hj]
    rw [e1, List.getElem_take, List.getElem_map, ← hline j i hj (by omega) (by omega), ← hline i j (by omega) hj (by omega), hok j hj i (by omega), hok i (by omega) j hj] at hp
    cases hp
  · intro hno
    refine Classical.byContradiction fun hcl => hno fun i hi j hj => ?_
    have key : ∀ a b (ha : a < ps.length) (hb : b < ps.length), a < b → (overT (textL ps[b]) (textL ps[a]) || overT (textL ps[a]) (textL ps[b])) = false := by
      intro a b ha hb hab
      have hcb : ¬ clashAt (ps.map textL) b := fun h => hcl ⟨b, hb, h⟩
      unfold clashAt at hcb
      have h3 := findIdx_neg _ _ (Int.not_le.1 hcb) (textL ps[a]) (List.mem_iff_getElem.2 ⟨a, by simp; omega, by simp⟩)
      have e1 : (ps.map textL).getD b [] = textL ps[b] := by simp [List.getD_eq_getElem?_getD, hb]
      rw [e1] at h3
      exact h3
    rcases Nat.lt_trichotomy i j with h | h | h
    · have := key i j hi hj h
      rw [hline i j hi hj (by omega)]
      simp only [Bool.or_eq_false_iff] at this
      exact this.2
    · unfold lineAt; simp [h]
    · have := key j i hj hi h
      rw [hline i j hi hj (by omega)]
      simp only [Bool.or_eq_false_iff] at this
      exact this.1
theorem find_same {p : List (List UInt8)} (hp : Clean p) : ∀ {ps : List (List (List UInt8))}, (∀ q ∈ ps, Clean q) → findIdx (fun x => overT x (textL p)) (ps.map textL) = gfind (fun x => x.isPrefixOf p) ps
  | [], _ => rfl
  | q :: ps, hc => by
    show findIdx _ (textL q :: ps.map textL) = _
    unfold findIdx gfind
    rw [overT_parts (hc q (by simp)) hp, find_same hp (fun x hx => hc x (List.mem_cons_of_mem _ hx))]
/-- The two agree. -/
theorem same_table (l : List (List UInt8)) :
    (∃ e c, newR l = .bad e ∧ refN l = .bad c ∧ codeOf e = c ∧ c ≠ 0 ∧ e.length ≤ 1000 ∧ ∃ tr, trailOf e = [114, 111, 117, 116, 101] :: tr) ∨ (∃ ps, newR l = .ok ps ∧ refN l = .ok ps ∧ parseAll l = some ps) := by
  unfold newR refN
  by_cases hl : l.length = 0 ∨ 4 < l.length
  · rw [if_pos hl, if_pos hl]
    exact .inl ⟨_, _, rfl, rfl, rfl, by decide, by decide, _, rfl⟩
  · rw [if_neg hl, if_neg hl]
    cases hp : parseAll l with
    | none => exact .inl ⟨_, _, rfl, rfl, rfl, by decide, by decide, _, rfl⟩
    | some ps =>
      have hcl := clash_line (parseAll_clean hp)
      by_cases hc : clashTo (ps.map textL) ps.length
      · rw [newP_bad hc, refP_bad (hcl.1 hc)]
        exact .inl ⟨_, _, rfl, rfl, rfl, by decide, by decide, _, rfl⟩
      · rw [newP_ok hc, refP_ok (Classical.byContradiction fun h => hc (hcl.2 h))]
        exact .inr ⟨ps, rfl, rfl, rfl⟩
end Go.Proofs.YtfhmdeamhmjddaaDoor
