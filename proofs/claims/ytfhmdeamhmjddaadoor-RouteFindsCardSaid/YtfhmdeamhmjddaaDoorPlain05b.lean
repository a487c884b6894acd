/-
  Paths above one another, the first good parts of a list: plain laws; no program in sight.
-/
import Derived.Test.YtfhmdeamhmjddaaDoorPath3
set_option linter.unusedVariables false
set_option linter.unusedSimpArgs false
namespace Go.Proofs.YtfhmdeamhmjddaaDoor

/-- What path.Over says of two texts. -/
def overT (p o : List UInt8) : Bool := p.isPrefixOf o && (match o.drop p.length with
  | [] => true
  | c :: _ => decide (c = 47))
theorem overT_iff (p o : List UInt8) : overT p o = true ↔ ∃ rest, o = p ++ rest ∧ (rest = [] ∨ ∃ t, rest = 47 :: t) := by
  unfold overT
  rw [Bool.and_eq_true, List.isPrefixOf_iff_prefix]
  constructor
  · rintro ⟨⟨r, rfl⟩, h⟩
    rw [List.drop_left] at h
    refine ⟨r, rfl, ?_⟩
    cases r with
    | nil => exact .inl rfl
    | cons c t =>
      simp at h
      subst h
      exact .inr ⟨t, rfl⟩
  · rintro ⟨r, rfl, h⟩
    refine ⟨⟨r, rfl⟩, ?_⟩
    rw [List.drop_left]
    rcases h with rfl | ⟨t, rfl⟩
    · rfl
    · simp
/-- A text that begins a part: nothing, or a slash. -/
def Edge (s : List UInt8) : Prop := s = [] ∨ ∃ t, s = 47 :: t
theorem edge_text (l : List (List UInt8)) : Edge (textL l) := by
  cases l with
  | nil => exact .inl rfl
  | cons x r => exact .inr ⟨x ++ textL r, rfl⟩
theorem edge_app {a b : List UInt8} (ha : Edge a) (hb : Edge b) : Edge (a ++ b) := by
  rcases ha with rfl | ⟨t, rfl⟩
  · exact hb
  · exact .inr ⟨t ++ b, rfl⟩
theorem cut_eq : ∀ {x y s t : List UInt8}, (47 : UInt8) ∉ x → (47 : UInt8) ∉ y → Edge s → Edge t → x ++ s = y ++ t → x = y
  | [], [], _, _, _, _, _, _, _ => rfl
  | [], d :: y, s, t, _, hy, hs, _, h => by
    simp only [List.nil_append, List.cons_append] at h
    rcases hs with rfl | ⟨u, rfl⟩
    · cases h
    · simp only [List.cons.injEq] at h
      exact absurd (by rw [← h.1]; simp) hy
  | c :: x, [], s, t, hx, _, _, ht, h => by
    simp only [List.nil_append, List.cons_append] at h
    rcases ht with rfl | ⟨u, rfl⟩
    · cases h
    · simp only [List.cons.injEq] at h
      exact absurd (by rw [h.1]; simp) hx
  | c :: x, d :: y, s, t, hx, hy, hs, ht, h => by
    simp only [List.cons_append, List.cons.injEq] at h
    simp only [List.mem_cons, not_or] at hx hy
    rw [h.1, cut_eq hx.2 hy.2 hs ht h.2]
/-- Parts without a slash. -/
def Clean (l : List (List UInt8)) : Prop := ∀ x ∈ l, (47 : UInt8) ∉ x
theorem over_text : ∀ {a b : List (List UInt8)}, Clean a → Clean b → ((∃ rest, textL b = textL a ++ rest ∧ Edge rest) ↔ a <+: b)
  | [], b, _, _ => ⟨fun _ => List.nil_prefix, fun _ => ⟨textL b, rfl, edge_text b⟩⟩
  | x :: a, [], _, _ => by
    constructor
    · rintro ⟨r, h, _⟩
      cases h
    · intro h
      exact absurd h (by simp)
  | x :: a, y :: b, ha, hb => by
    have hx : (47 : UInt8) ∉ x := ha x (by simp)
    have hy : (47 : UInt8) ∉ y := hb y (by simp)
    have ih := over_text (a := a) (b := b) (fun z hz => ha z (by simp [hz])) (fun z hz => hb z (by simp [hz]))
    constructor
    · rintro ⟨r, h, hr⟩
      simp only [textL, List.cons_append, List.append_assoc, List.cons.injEq, true_and] at h
      have hxy := cut_eq hy hx (edge_text b) (edge_app (edge_text a) hr) h
      subst hxy
      rw [List.append_cancel_left_eq] at h
      exact (List.prefix_cons_inj y).2 (ih.1 ⟨r, h, hr⟩)
    · intro h
      obtain ⟨hxy, h2⟩ := List.cons_prefix_cons.1 h
      subst hxy
      obtain ⟨r, hr, he⟩ := ih.2 h2
      exact ⟨r, by simp only [textL, hr, List.cons_append, List.append_assoc], he⟩
theorem overT_parts {a b : List (List UInt8)} (ha : Clean a) (hb : Clean b) : overT (textL a) (textL b) = a.isPrefixOf b := by
  rw [Bool.eq_iff_iff, overT_iff, List.isPrefixOf_iff_prefix]
  exact over_text ha hb
theorem clean_of {l : List (List UInt8)} (h : ∀ x ∈ l, partL x = true) : Clean l := fun x hx => (part_short (h x hx)).2.2
theorem splitL_text : ∀ {x : List UInt8} {l : List (List UInt8)}, (47 : UInt8) ∉ x → Clean l → splitL (x ++ textL l) = x :: l
  | x, [], hx, _ => by rw [textL, List.append_nil, splitL_none hx]
  | x, y :: l, hx, hl => by
    show splitL (x ++ 47 :: (y ++ textL l)) = _
    rw [splitL_cut hx, splitL_text (hl y (by simp)) (fun z hz => hl z (by simp [hz]))]
theorem parts_text {l : List (List UInt8)} (h : Clean l) : parts5 (textL l) = l := by
  cases l with
  | nil => rfl
  | cons x r =>
    show parts5 (47 :: (x ++ textL r)) = _
    unfold parts5
    rw [if_neg (by simp)]
    exact splitL_text (h x (by simp)) (fun z hz => h z (by simp [hz]))
theorem count_text : ∀ {l : List (List UInt8)}, Clean l → (textL l).count 47 = l.length
  | [], _ => rfl
  | x :: l, h => by
    show (47 :: (x ++ textL l)).count 47 = _
    rw [List.count_cons_self, List.count_append, List.count_eq_zero.2 (h x (by simp)), count_text (fun z hz => h z (by simp [hz])), List.length_cons]
    omega
theorem text_inj {a b : List (List UInt8)} (ha : Clean a) (hb : Clean b) (h : textL a = textL b) : a = b := by
  rw [← parts_text ha, h, parts_text hb]
/-- The first six parts that may be. -/
def mk6 (l : List (List UInt8)) : List (List UInt8) := (l.filter partL).take 6
theorem mk6_fine (l : List (List UInt8)) : (∀ x ∈ mk6 l, partL x = true) ∧ (mk6 l).length ≤ 6 := by
  constructor
  · intro x hx
    exact (List.mem_filter.1 (List.mem_of_mem_take hx)).2
  · unfold mk6; rw [List.length_take]; omega
theorem mk6_next (l : List (List UInt8)) (t : Nat) (h : t < l.length) (hl : (mk6 (l.take t)).length < 6) : mk6 (l.take (t + 1)) = if partL l[t] then mk6 (l.take t) ++ [l[t]] else mk6 (l.take t) := by
  unfold mk6 at hl ⊢
  rw [List.length_take] at hl
  rw [List.take_succ_eq_append_getElem h, List.filter_append]
  have h1 : (l.take t).filter partL = ((l.take t).filter partL).take 6 := (List.take_of_length_le (by omega)).symm
  by_cases hp : partL l[t] = true
  · rw [if_pos hp, List.filter_cons_of_pos hp, List.filter_nil, List.take_of_length_le (by rw [List.length_append]; simp; omega), ← h1]
  · rw [if_neg hp, List.filter_cons_of_neg hp, List.filter_nil, List.append_nil]
theorem mk6_end (l : List (List UInt8)) (t : Nat) (h : (mk6 (l.take t)).length = 6) : mk6 l = mk6 (l.take t) := by
  unfold mk6 at h ⊢
  conv => lhs; rw [← List.take_append_drop t l, List.filter_append]
  rw [List.length_take] at h
  rw [List.take_append_of_le_length (by omega)]
theorem text_take (l : List (List UInt8)) (x : List UInt8) : (textL (l ++ [x])).take (textL l).length = textL l := by
  rw [text_app, List.take_left]
/-- The last slash of a path's text. -/
theorem last_text {l : List (List UInt8)} {x : List UInt8} (hx : (47 : UInt8) ∉ x) : Lib.lastIndexByte (txt (textL (l ++ [x]))) 47 = (textL l).length := by
  have h1 : textL (l ++ [x]) = textL l ++ 47 :: x := by rw [text_app]; simp [textL]
  rw [h1]
  generalize textL l = a
  unfold Lib.lastIndexByte
  have hget : ∀ j, j < (a ++ 47 :: x).length → (txt (a ++ 47 :: x)).data[j]! = (a ++ 47 :: x)[j]! := fun j hj => by
    simp [txt]
  rcases Lib.lastIdx_spec (txt (a ++ 47 :: x)) 47 (txt (a ++ 47 :: x)).size with ⟨_, h⟩ | ⟨i, hi, he, hc, hn⟩
  · have := h a.length (by simp)
    rw [hget _ (by simp)] at this
    simp at this
  · rw [he]
    rw [txt_size] at hi hn
    rw [hget i hi] at hc
    rcases Nat.lt_trichotomy i a.length with h | h | h
    · have := hn a.length h (by simp)
      rw [hget _ (by simp)] at this
      simp at this
    · rw [h]
    · exfalso
      obtain ⟨j, rfl⟩ : ∃ j, i = a.length + 1 + j := ⟨i - a.length - 1, by omega⟩
      simp only [List.length_append, List.length_cons] at hi
      have hj : j < x.length := by omega
      have hg : (a ++ 47 :: x)[a.length + 1 + j]! = x[j] := by
        rw [show a ++ 47 :: x = (a ++ [47]) ++ x by simp]
        rw [List.getElem!_eq_getElem?_getD, List.getElem?_append_right (by simp)]
        simp [hj]
      rw [hg] at hc
      have : x[j] = 47 := UInt8.toNat.inj (by show x[j].toNat = 47; omega)
      exact hx (this ▸ List.getElem_mem hj)
end Go.Proofs.YtfhmdeamhmjddaaDoor
