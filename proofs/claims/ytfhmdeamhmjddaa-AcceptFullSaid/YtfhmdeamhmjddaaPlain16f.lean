/-
  AcceptFull of layer 16, the plain law: what an acceptor holds that accepted sixty-four entries of every second slot. No condition beyond those that each theorem states.
-/
import Derived.Test.YtfhmdeamhmjddaaTrim2
set_option linter.unusedVariables false
set_option linter.unusedSimpArgs false
set_option maxRecDepth 100000
namespace Go.Proofs.Ytfhmdeamhmjddaa

/-- The entries after m rounds. -/
def fullList (f : Int) (k : ByteArray) (m : Nat) : List EntS := (List.range m).map fun i : Nat => ⟨f + 2 * (i : Int), ⟨1, 3⟩, k⟩
/-- The acceptor after m rounds. -/
def fullAcc (wit : Bool) (f : Int) (k : ByteArray) (m : Nat) : AccS := ⟨wit, if m = 0 then ⟨0, 0⟩ else ⟨1, 3⟩, 0, fullList f k m, 0, 0⟩
def keptOf (wit : Bool) (s : ByteArray) : ByteArray := if wit = true then digestOf s else s

theorem fullList_length (f : Int) (k : ByteArray) (m : Nat) : (fullList f k m).length = m := by simp [fullList]
theorem fullList_get (f : Int) (k : ByteArray) (m i : Nat) (h : i < (fullList f k m).length) : (fullList f k m)[i] = ⟨f + 2 * (i : Int), ⟨1, 3⟩, k⟩ := by simp [fullList]
theorem fullList_succ (f : Int) (k : ByteArray) (m : Nat) : fullList f k (m + 1) = fullList f k m ++ [⟨f + 2 * (m : Int), ⟨1, 3⟩, k⟩] := by
  simp [fullList, List.range_succ]
theorem hasSlot_full (f : Int) (k : ByteArray) (m : Nat) (x : Int) : hasSlot (fullList f k m) x = true ↔ ∃ i : Nat, i < m ∧ f + 2 * (i : Int) = x := by
  simp [hasSlot, fullList]
theorem fine_full (wit : Bool) (f : Int) (k : ByteArray) (m : Nat) (hf0 : 1 ≤ f) (hf1 : f ≤ 65536) (hm : m ≤ 64) : (fullAcc wit f k m).fine := by
  refine ⟨⟨by simp [fullAcc, fullList_length]; omega, fun e he => ?_, ?_⟩, by simp [fullAcc], by simp [fullAcc], by simp [fullAcc], by simp [fullAcc], by simp [fullAcc], by simp [fullAcc]⟩
  · simp only [fullAcc, fullList, List.mem_map, List.mem_range] at he
    obtain ⟨i, hi, rfl⟩ := he
    unfold SlotIn
    simp only
    omega
  · rw [List.pairwise_iff_getElem]
    intro i j hi hj hij
    simp only [fullAcc]
    rw [fullList_get f k m i (by simpa [fullAcc] using hi), fullList_get f k m j (by simpa [fullAcc] using hj)]
    simp only
    omega
theorem ahead_full (f : Int) (k : ByteArray) (m : Nat) : aheadOf (fullList f k m) (f + 2 * (m : Int)) = m := by
  refine aheadOf_eq _ _ m (by rw [fullList_length]; omega) (fun t ht h => ?_) (fun t ht h => ?_)
  · rw [fullList_get]; simp only; omega
  · rw [fullList_length] at ht; omega
theorem cmp_of (a b c d : Int) : BalS.cmp ⟨a, b⟩ ⟨c, d⟩ = if (if a < c then (-1 : Int) else if c < a then 1 else 0) = 0 then (if b < d then -1 else if d < b then 1 else 0) else (if a < c then -1 else if c < a then 1 else 0) := rfl
theorem full_step (wit : Bool) (f : Int) (s : ByteArray) (m : Nat) (hf0 : 1 ≤ f) (hm : m < 64) :
    (fullAcc wit f (keptOf wit s) m).accept { bal := ⟨1, 3⟩, slot := f + 2 * (m : Int), text := s } = (fullAcc wit f (keptOf wit s) (m + 1), { kind := 4, bal := ⟨1, 3⟩, slot := f + 2 * (m : Int) }, true) := by
  have hlow : (fullAcc wit f (keptOf wit s) m).low ⟨1, 3⟩ = false := by
    unfold AccS.low fullAcc
    by_cases h : m = 0
    · simp [h, cmp_of]
    · simp [h, cmp_of]
  have hhas : hasSlot (fullList f (keptOf wit s) m) (f + 2 * (m : Int)) = false := by
    rw [Bool.eq_false_iff]
    intro h
    obtain ⟨i, hi, e⟩ := (hasSlot_full _ _ _ _).1 h
    omega
  unfold AccS.accept
  rw [if_neg (by simp [hlow])]
  unfold AccS.acceptOn
  simp only
  rw [if_pos (by simp only [fullAcc]; omega), if_neg (by simp only [fullAcc]; rw [hhas]; simp), if_neg (by simp only [fullAcc]; rw [fullList_length]; omega)]
  have ha := ahead_full f (keptOf wit s) m
  have hk : AccS.kept (fullAcc wit f (keptOf wit s) m) s = keptOf wit s := rfl
  rw [hk]
  simp only [fullAcc]
  rw [ha]
  have h1 : (fullList f (keptOf wit s) m).take m = fullList f (keptOf wit s) m := List.take_of_length_le (by rw [fullList_length]; omega)
  have h2 : (fullList f (keptOf wit s) m).drop m = [] := List.drop_eq_nil_of_le (by rw [fullList_length]; omega)
  rw [h1, h2, fullList_succ]
  simp
/-- The entry of slot x is there. -/
theorem there_full (f : Int) (k : ByteArray) (x : Int) : hasSlot (fullList f k 64) x = decide (f ≤ x ∧ x ≤ f + 126 ∧ (x - f) % 2 = 0) := by
  rw [Bool.eq_iff_iff, hasSlot_full, decide_eq_true_eq]
  constructor
  · rintro ⟨i, hi, rfl⟩; omega
  · rintro ⟨h1, h2, h3⟩
    exact ⟨((x - f) / 2).toNat, by omega, by omega⟩
theorem low_full (wit : Bool) (f : Int) (k : ByteArray) : (fullAcc wit f k 64).low ⟨2, 0⟩ = false := by
  unfold AccS.low fullAcc
  simp [cmp_of]
theorem full_zero (wit : Bool) (f : Int) (k s : ByteArray) (hf0 : 1 ≤ f) :
    (fullAcc wit f k 64).accept { bal := ⟨2, 0⟩, slot := 0, text := s } = ({ fullAcc wit f k 64 with bal := ⟨2, 0⟩ }, { kind := 4, bal := ⟨2, 0⟩, slot := 0 }, true) := by
  unfold AccS.accept
  rw [if_neg (by simp [low_full])]
  unfold AccS.acceptOn
  simp only
  rw [if_neg (by simp [fullAcc])]
  simp [fullAcc]
theorem full_none (wit : Bool) (f : Int) (k s : ByteArray) (x : Int) (hx : 0 < x) (hn : hasSlot (fullList f k 64) x = false) :
    (fullAcc wit f k 64).accept { bal := ⟨2, 0⟩, slot := x, text := s } = (fullAcc wit f k 64, {}, false) := by
  unfold AccS.accept
  rw [if_neg (by simp [low_full])]
  unfold AccS.acceptOn
  simp only
  rw [if_pos (by simpa [fullAcc] using hx), if_neg (by simp only [fullAcc]; rw [hn]; simp), if_pos (by simp [fullAcc, fullList_length])]
theorem full_there (wit : Bool) (f : Int) (k s : ByteArray) (x : Int) (hx : 0 < x) (hn : hasSlot (fullList f k 64) x = true) :
    ∃ L : List EntS, (fullAcc wit f k 64).accept { bal := ⟨2, 0⟩, slot := x, text := s } = ({ fullAcc wit f k 64 with bal := ⟨2, 0⟩, list := L }, { kind := 4, bal := ⟨2, 0⟩, slot := x }, true) ∧ L.length = 64 ∧ L.map EntS.slot = (fullList f k 64).map EntS.slot := by
  obtain ⟨j, hj, hjx⟩ := (hasSlot_full _ _ _ _).1 hn
  have hs : SortedE (fullList f k 64) ∨ True := .inr trivial
  have ha : aheadOf (fullList f k 64) x = j := by
    refine aheadOf_eq _ _ j (by rw [fullList_length]; omega) (fun t ht h => ?_) (fun t ht h => ?_)
    · rw [fullList_get]; simp only; omega
    · rw [fullList_get]; simp only; omega
  refine ⟨(fullList f k 64).set j ⟨x, ⟨2, 0⟩, (fullAcc wit f k 64).kept s⟩, ?_, by rw [List.length_set, fullList_length], ?_⟩
  · unfold AccS.accept
    rw [if_neg (by simp [low_full])]
    unfold AccS.acceptOn
    simp only
    rw [if_pos (by simpa [fullAcc] using hx), if_pos (by simpa only [fullAcc] using hn)]
    have hg : (fullAcc wit f k 64).list.getD (aheadOf (fullAcc wit f k 64).list x) ⟨x, ⟨2, 0⟩, (fullAcc wit f k 64).kept s⟩ = ⟨f + 2 * (j : Int), ⟨1, 3⟩, k⟩ := by
      show (fullList f k 64).getD (aheadOf (fullList f k 64) x) _ = _
      rw [ha, List.getD, List.getElem?_eq_getElem (by rw [fullList_length]; exact hj), fullList_get]
      rfl
    rw [hg, if_neg (by simp [EntS.same])]
    show _ = _
    simp only [fullAcc] at ha ⊢
    rw [ha]
  · rw [List.map_set]
    apply List.ext_getElem
    · simp
    · intro t h1 h2
      rw [List.getElem_set]
      split
      · rename_i h; subst h
        rw [List.getElem_map, fullList_get]
        simp only
        omega
      · rfl
theorem filter_slots (L M : List EntS) (base : Int) (h : L.map EntS.slot = M.map EntS.slot) : (L.filter (keptBy base)).length = (M.filter (keptBy base)).length := by
  have key : ∀ L : List EntS, (L.filter (keptBy base)).length = ((L.map EntS.slot).filter fun z => decide (base < z)).length := by
    intro L
    rw [List.filter_map, List.length_map]
    rfl
  rw [key L, key M, h]
theorem full_filter (f : Int) (k : ByteArray) : ((fullList f k 64).filter (keptBy f)).length = 63 := by
  unfold fullList
  rw [List.filter_map, List.length_map]
  have : ((List.range 64).filter ((keptBy f) ∘ fun i : Nat => (⟨f + 2 * (i : Int), ⟨1, 3⟩, k⟩ : EntS))) = (List.range 64).filter fun i => decide (0 < i) := by
    apply List.filter_congr
    intro i _
    simp only [Function.comp, keptBy, decide_eq_decide]
    omega
  rw [this]
  decide
end Go.Proofs.Ytfhmdeamhmjddaa
