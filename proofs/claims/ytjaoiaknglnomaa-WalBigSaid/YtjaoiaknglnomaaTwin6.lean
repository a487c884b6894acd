/-
  What is written is read again: numbers, texts, frames, files. Plain laws; no program in sight.
-/
import Derived.Test.YtjaoiaknglnomaaTwin5
import Derived.Test.YtjaoiaknglnomaaPrefix16
set_option linter.unusedVariables false
set_option linter.unusedSimpArgs false
namespace Go.Proofs.Ytjaoiaknglnomaa

theorem foldNum_wide (x : Nat) : ∀ k a, (wideOf x k).foldl (fun v b => v * 256 + b.toNat) a = a * 256 ^ k + x % 256 ^ k
  | 0, a => by simp [wideOf, Nat.mod_one]
  | k + 1, a => by
    have e : x % 256 ^ (k + 1) = x % 256 ^ k + 256 ^ k * (x / 256 ^ k % 256) := by rw [Nat.pow_succ]; exact Nat.mod_mul
    have e2 : a * 256 ^ (k + 1) = a * 256 * 256 ^ k := by rw [Nat.pow_succ, Nat.mul_assoc, Nat.mul_comm 256]
    have e3 : (UInt8.ofNat (x / 256 ^ k)).toNat = x / 256 ^ k % 256 := by simp
    rw [wideOf, List.foldl_cons, foldNum_wide x k, e, e2, e3, Nat.add_mul, Nat.mul_comm (256 ^ k)]
    omega
theorem numOf_wide (x k : Nat) : numOf (wideOf x k) = x % 256 ^ k := by
  unfold numOf
  rw [foldNum_wide]
  simp

theorem take_app (l r : List UInt8) : RdS.take ⟨l ++ r, 0⟩ l.length = (l, ⟨r, 0⟩) := by
  unfold RdS.take
  rw [if_pos rfl, if_neg (by simp)]
  simp
theorem U_uBytes (x : Nat) (hx : x < 18446744073709551616) (r : List UInt8) : RdS.U ⟨uBytes x ++ r, 0⟩ = (x, ⟨r, 0⟩) := by
  have h1 : RdS.take ⟨uBytes x ++ r, 0⟩ 1 = ([(headOf x).1], ⟨wideOf x (headOf x).2 ++ r, 0⟩) := take_app [(headOf x).1] _
  have key : ∀ c n, headOf x = (c, n) → 252 ≤ c.toNat → c ≠ 255 → moreOf c = n → x % 256 ^ n = x → RdS.U ⟨uBytes x ++ r, 0⟩ = (x, ⟨r, 0⟩) := by
    intro c n hh hc h5 hm hxn
    have h2 : RdS.take ⟨wideOf x n ++ r, 0⟩ n = (wideOf x n, ⟨r, 0⟩) := by
      have := take_app (wideOf x n) r
      rwa [wideOf_length] at this
    rw [hh] at h1
    unfold RdS.U
    rw [h1]
    simp only
    rw [if_neg (by omega), if_neg h5, hm, h2]
    simp only
    rw [numOf_wide, hxn, hh]
    simp
  rcases headOf_cases x with ⟨a1, a2⟩ | ⟨a0, a1, a2⟩ | ⟨a0, a1, a2⟩ | ⟨a0, a2⟩
  · rw [a2] at h1
    have ht : (UInt8.ofNat x).toNat = x := by simp; omega
    unfold RdS.U
    rw [h1]
    simp only
    rw [if_pos (by omega), ht]
    simp [wideOf]
  · exact key _ _ a2 (by decide) (by decide) (by decide) (Nat.mod_eq_of_lt (by omega))
  · exact key _ _ a2 (by decide) (by decide) (by decide) (Nat.mod_eq_of_lt (by omega))
  · exact key _ _ a2 (by decide) (by decide) (by decide) (Nat.mod_eq_of_lt (by omega))
theorem N_nBytes (n : Nat) (most : Int) (h : (n : Int) ≤ most) (hn : n < 18446744073709551616) (r : List UInt8) : RdS.N ⟨nBytes n ++ r, 0⟩ most = ((n : Int), ⟨r, 0⟩) := by
  have e : nBytes (n : Int) = uBytes n := rfl
  unfold RdS.N
  rw [e, U_uBytes n hn]
  rw [if_neg (by simp only; omega)]
theorem S_sBytes (s r : List UInt8) (most : Int) (h : (s.length : Int) ≤ most) (hn : s.length < 18446744073709551616) : RdS.S ⟨nBytes s.length ++ (s ++ r), 0⟩ most = (s, ⟨r, 0⟩) := by
  unfold RdS.S
  rw [N_nBytes s.length most h hn]
  exact take_app s r
theorem take_is (a b : List UInt8) (n : Nat) (h : a.length = n) : (a ++ b).take n = a := by subst h; simp
theorem drop_is (a b : List UInt8) (n : Nat) (h : a.length = n) : (a ++ b).drop n = b := by subst h; simp
theorem openL_frame (s : List UInt8) (hs : s.length ≤ 1048576) : openL (frameL 1 s) = (1, s, 0) := by
  have hw := wideOf_length s.length 3
  have hw4 := wideOf_length (sumN (bodyL 1 s)) 4
  have hn : numOf ((wideOf s.length 3)) = s.length := by rw [numOf_wide]; exact Nat.mod_eq_of_lt (by omega)
  have hl : (frameL 1 s).length = s.length + 8 := by simp [frameL, bodyL, wideOf_length]; omega
  have e1 : ((frameL 1 s).drop 1).take 3 = wideOf s.length 3 := by
    simp only [frameL, bodyL, List.cons_append, List.drop_succ_cons, List.drop_zero, List.append_assoc]
    exact take_is _ _ 3 hw
  have e2 : (frameL 1 s).headD 0 = 1 := rfl
  have hlb : (bodyL 1 s).length = s.length + 4 := by simp [bodyL, wideOf_length]; omega
  have e3 : (frameL 1 s).take (4 + s.length) = bodyL 1 s := take_is _ _ _ (by omega)
  have e4 : ((frameL 1 s).drop (4 + s.length)).take 4 = wideOf (sumN (bodyL 1 s)) 4 := by
    rw [show (frameL 1 s).drop (4 + s.length) = wideOf (sumN (bodyL 1 s)) 4 from drop_is _ _ _ (by omega)]
    rw [List.take_of_length_le (by omega)]
  have e5 : ((frameL 1 s).drop 4).take s.length = s := by
    have : (frameL 1 s).drop 4 = s ++ wideOf (sumN (bodyL 1 s)) 4 := by
      have q : frameL 1 s = (1 :: wideOf s.length 3) ++ (s ++ wideOf (sumN (bodyL 1 s)) 4) := by simp [frameL, bodyL]
      rw [q]
      exact drop_is _ _ _ (by simp [wideOf_length])
    rw [this]
    exact take_is _ _ _ rfl
  have e6 : numOf (wideOf (sumN (bodyL 1 s)) 4) = sumN (bodyL 1 s) := by
    rw [numOf_wide]
    exact Nat.mod_eq_of_lt (sumN_lt _)
  unfold openL
  rw [if_neg (by omega), e2, if_neg (by decide), e1]
  simp only [hn]
  rw [if_neg (by omega), if_neg (by omega), e3, e4, e6, e5, if_pos rfl]
theorem parse_spell (v : Nat) (s : List UInt8) (hv : v < 18446744073709551616) (hv0 : v ≠ 0) (hs : s.length ≤ 524288) : parseL (spellL v s) = ⟨v, s, false⟩ := by
  have h1 := uBytes_le v
  have h2 := nBytes_le s.length
  have hne : spellL v s ≠ [] := by simp [spellL, frameL, bodyL]
  have hlen : (uBytes v ++ (nBytes s.length ++ s)).length ≤ 1048576 := by simp only [List.length_append]; omega
  have ho := openL_frame _ hlen
  have hl : (spellL v s).length = (uBytes v ++ (nBytes s.length ++ s)).length + 8 := by simp [spellL, frameL, bodyL, wideOf_length]; omega
  have hS : RdS.S ⟨nBytes s.length ++ s, 0⟩ 524288 = (s, ⟨[], 0⟩) := by
    have := S_sBytes s [] 524288 (by omega) (by omega)
    rwa [List.append_nil] at this
  unfold parseL
  rw [if_neg hne]
  have e : openL (spellL v s) = (1, uBytes v ++ (nBytes s.length ++ s), 0) := ho
  rw [e]
  simp only
  rw [U_uBytes v hv]
  simp only
  rw [hS]
  rw [if_pos ⟨trivial, trivial, hl.symm, rfl, hv0⟩]
theorem parse_none : parseL [] = ⟨0, [], false⟩ := rfl
end Go.Proofs.Ytjaoiaknglnomaa
