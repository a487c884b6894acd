/-
  What is opened well was a frame; a proper beginning of a file, and a file of which one byte is another one, are bad. Plain laws; no program in sight.
-/
import Derived.Test.YtjaoiaknglnomaaTwin8
set_option linter.unusedVariables false
set_option linter.unusedSimpArgs false
namespace Go.Proofs.Ytjaoiaknglnomaa

theorem body_take (s : List UInt8) (n : Nat) (h4 : 4 ≤ s.length) (hn : numOf ((s.drop 1).take 3) = n) (h2 : n + 8 ≤ s.length) : bodyL (s.headD 0) ((s.drop 4).take n) = s.take (4 + n) := by
  have hl : ((s.drop 4).take n).length = n := by rw [List.length_take, List.length_drop]; omega
  have w3 : wideOf n 3 = (s.drop 1).take 3 := by
    have := wide_numOf ((s.drop 1).take 3)
    rw [hn, show ((s.drop 1).take 3).length = 3 by rw [List.length_take, List.length_drop]; omega] at this
    exact this
  unfold bodyL
  rw [hl, w3]
  cases s with
  | nil => simp at h4
  | cons c r =>
    rw [show 4 + n = (3 + n) + 1 by omega, List.take_succ_cons]
    simp only [List.headD_cons, List.drop_succ_cons, List.drop_zero]
    rw [List.take_add]
theorem sum_take (s : List UInt8) (n : Nat) (h2 : n + 8 ≤ s.length) : wideOf (numOf ((s.drop (4 + n)).take 4)) 4 = (s.drop (4 + n)).take 4 := by
  have := wide_numOf ((s.drop (4 + n)).take 4)
  rw [show ((s.drop (4 + n)).take 4).length = 4 by rw [List.length_take, List.length_drop]; omega] at this
  exact this
theorem openL_inv (s : List UInt8) (k : UInt8) (inn : List UInt8) (h : openL s = (k, inn, 0)) : k ≠ 0 ∧ inn.length ≤ 1048576 ∧ ∃ r, s = frameL k inn ++ r := by
  unfold openL at h
  by_cases h4 : s.length < 4
  · rw [if_pos h4] at h; simp at h
  rw [if_neg h4] at h
  by_cases h0 : s.headD 0 = 0
  · rw [if_pos h0] at h; simp at h
  rw [if_neg h0] at h
  dsimp only at h
  obtain ⟨n, hn⟩ : ∃ n, n = numOf ((s.drop 1).take 3) := ⟨_, rfl⟩
  rw [← hn] at h
  by_cases h1 : 1048576 < n
  · rw [if_pos h1] at h; simp at h
  rw [if_neg h1] at h
  by_cases h2 : s.length < n + 8
  · rw [if_pos h2] at h; simp at h
  rw [if_neg h2] at h
  by_cases h3 : sumN (s.take (4 + n)) = numOf ((s.drop (4 + n)).take 4)
  · rw [if_pos h3] at h
    simp only [Prod.mk.injEq, and_true] at h
    obtain ⟨hk, hi⟩ := h
    have hl : inn.length = n := by rw [← hi, List.length_take, List.length_drop]; omega
    have hb : bodyL k inn = s.take (4 + n) := by rw [← hk, ← hi]; exact body_take s n (by omega) hn.symm (by omega)
    refine ⟨by rw [← hk]; exact h0, by omega, s.drop (n + 8), ?_⟩
    unfold frameL
    have e5 : s.drop (n + 8) = (s.drop (4 + n)).drop 4 := by rw [List.drop_drop]; congr 1; omega
    rw [hb, h3, sum_take s n (by omega), List.append_assoc, e5, List.take_append_drop, List.take_append_drop]
  · rw [if_neg h3] at h; simp at h
theorem frame_len (k : UInt8) (s : List UInt8) : (frameL k s).length = s.length + 8 := by
  simp only [frameL, bodyL, List.length_append, List.length_cons, wideOf_length]
  omega
theorem body_len (k : UInt8) (s : List UInt8) : (bodyL k s).length = s.length + 4 := by
  simp only [bodyL, List.length_append, List.length_cons, wideOf_length]
  omega
theorem frame_take (k : UInt8) (s : List UInt8) : (frameL k s).take (s.length + 4) = bodyL k s := take_is _ _ _ (body_len k s)
theorem frame_drop (k : UInt8) (s : List UInt8) : (frameL k s).drop (s.length + 4) = wideOf (sumN (bodyL k s)) 4 := drop_is _ _ _ (body_len k s)
theorem body_in (k : UInt8) (s t : List UInt8) (h : bodyL k s = bodyL k t) : s = t := by
  have hl : s.length = t.length := by
    have := congrArg List.length h
    rw [body_len, body_len] at this
    omega
  unfold bodyL at h
  rw [hl] at h
  exact List.append_cancel_left (List.cons.inj h).2
/-- Is a file good, it is a frame of kind 1. -/
theorem parse_cases (s : List UInt8) : s = [] ∨ parseL s = ⟨0, [], true⟩ ∨ ∃ inn, inn.length ≤ 1048576 ∧ s = frameL 1 inn := by
  by_cases h0 : s = []
  · exact .inl h0
  · refine .inr ?_
    unfold parseL
    rw [if_neg h0]
    dsimp only
    split
    · rename_i h
      obtain ⟨h1, h2, h3, _, _⟩ := h
      refine .inr ⟨(openL s).2.1, ?_⟩
      obtain ⟨_, q2, r, q3⟩ := openL_inv s 1 (openL s).2.1 (by rw [← h1, ← h2])
      refine ⟨q2, ?_⟩
      have hl := congrArg List.length q3
      rw [List.length_append, frame_len] at hl
      have hr : r = [] := List.eq_nil_of_length_eq_zero (by omega)
      rw [hr, List.append_nil] at q3
      exact q3
    · exact .inl rfl
theorem spell_frame (v : Nat) (s : List UInt8) (hs : s.length ≤ 524288) : ∃ inn, inn.length ≤ 1048576 ∧ spellL v s = frameL 1 inn := by
  have h1 := uBytes_le v
  have h2 := nBytes_le (s.length : Int)
  exact ⟨_, by simp only [List.length_append]; omega, rfl⟩
/-- A proper beginning of a file is bad. -/
theorem parse_part (v : Nat) (s p q : List UInt8) (hs : s.length ≤ 524288) (hp : p ≠ []) (hq : q ≠ []) (h : spellL v s = p ++ q) : parseL p = ⟨0, [], true⟩ := by
  obtain ⟨inn, hi, he⟩ := spell_frame v s hs
  rcases parse_cases p with h1 | h1 | ⟨inp, hj, h1⟩
  · exact absurd h1 hp
  · exact h1
  · rw [he, h1] at h
    have h3 : wideOf inn.length 3 = wideOf inp.length 3 := by
      have := congrArg (fun l => (List.take 3 (List.drop 1 l))) h
      simp only [frameL, bodyL, List.cons_append, List.append_assoc, List.drop_succ_cons, List.drop_zero] at this
      rw [take_is _ _ 3 (wideOf_length _ _), take_is _ _ 3 (wideOf_length _ _)] at this
      exact this
    have h4 := congrArg numOf h3
    rw [numOf_wide, numOf_wide, Nat.mod_eq_of_lt (by omega), Nat.mod_eq_of_lt (by omega)] at h4
    have h5 := congrArg List.length h
    rw [List.length_append, frame_len, frame_len] at h5
    exact absurd (List.eq_nil_of_length_eq_zero (by omega)) hq
theorem two_frames (a b : List UInt8) (p q : List UInt8) (x y : UInt8) (hl : a.length = b.length) (ha : frameL 1 a = p ++ x :: q) (hb : frameL 1 b = p ++ y :: q) : x = y := by
  have ta := frame_take 1 a
  have tb := frame_take 1 b
  have da := frame_drop 1 a
  have db := frame_drop 1 b
  rw [ha] at ta da
  rw [hb, ← hl] at tb db
  rcases Nat.lt_or_ge p.length (a.length + 4) with h | h
  · obtain ⟨m, hm⟩ : ∃ m, a.length + 4 = p.length + (m + 1) := ⟨a.length + 4 - p.length - 1, by omega⟩
    rw [hm] at ta da tb db
    rw [List.take_append, List.take_of_length_le (by omega), show p.length + (m + 1) - p.length = m + 1 by omega, List.take_succ_cons] at ta tb
    rw [List.drop_append, List.drop_of_length_le (by omega), show p.length + (m + 1) - p.length = m + 1 by omega, List.drop_succ_cons, List.nil_append] at da db
    rw [da] at db
    have hs := congrArg numOf db
    have l1 := sumN_lt (bodyL 1 a)
    have l2 := sumN_lt (bodyL 1 b)
    rw [numOf_wide, numOf_wide, Nat.mod_eq_of_lt l1, Nat.mod_eq_of_lt l2, ← ta, ← tb] at hs
    exact sumN_one p _ x y hs
  · rw [List.take_append_of_le_length h] at ta tb
    rw [ta] at tb
    have := body_in 1 a b tb
    rw [this, hb] at ha
    have := List.append_cancel_left ha
    exact (List.cons.inj this).1.symm
/-- A file of which one byte is another one is bad. -/
theorem parse_turned (v : Nat) (s : List UInt8) (i : Nat) (x : UInt8) (hs : s.length ≤ 524288) (hi : i < (spellL v s).length) (hx : x ≠ 0) : parseL ((spellL v s).set i (((spellL v s).getD i 0) ^^^ x)) = ⟨0, [], true⟩ := by
  obtain ⟨inn, hn, he⟩ := spell_frame v s hs
  rw [he] at hi ⊢
  rcases parse_cases ((frameL 1 inn).set i (((frameL 1 inn).getD i 0) ^^^ x)) with h1 | h1 | ⟨inp, hj, h1⟩
  · have := congrArg List.length h1
    rw [List.length_set, List.length_nil] at this
    omega
  · exact h1
  · have hl := congrArg List.length h1
    rw [List.length_set, frame_len, frame_len] at hl
    have hg : (frameL 1 inn).getD i 0 = (frameL 1 inn)[i] := by simp [List.getD, hi]
    rw [hg] at h1
    have ea : frameL 1 inn = (frameL 1 inn).take i ++ (frameL 1 inn)[i] :: (frameL 1 inn).drop (i + 1) := by
      rw [List.getElem_cons_drop, List.take_append_drop]
    have eb : frameL 1 inp = (frameL 1 inn).take i ++ ((frameL 1 inn)[i] ^^^ x) :: (frameL 1 inn).drop (i + 1) := by
      rw [← h1, List.set_eq_take_append_cons_drop, if_pos hi]
    have := two_frames inn inp _ _ _ _ (by omega) ea eb
    exfalso
    apply hx
    have e2 := congrArg (fun z => (frameL 1 inn)[i] ^^^ z) this
    simp only [UInt8.xor_self, ← UInt8.xor_assoc, UInt8.zero_xor] at e2
    exact e2.symm
end Go.Proofs.Ytjaoiaknglnomaa
