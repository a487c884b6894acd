/-
  What code.Reader reads is what code.Writer wrote, and back. Plain laws; no program in sight.
-/
import Derived.Test.YtfhmdeamhmjddaaBm17
import Derived.Test.YtfhmdeamhmjddaaBm11
import Derived.Test.YtfhmdeamhmjddaaBm14
set_option linter.unusedVariables false
set_option linter.unusedSimpArgs false
namespace Go.Proofs.Ytfhmdeamhmjddaa

theorem foldNum_wide (x : Nat) : ∀ k a, (wideOf x k).foldl (fun v b => v * 256 + b.toNat) a = a * 256 ^ k + x % 256 ^ k
  | 0, a => by simp [wideOf, Nat.mod_one]
  | k + 1, a => by
    have e : x % 256 ^ (k + 1) = x % 256 ^ k + 256 ^ k * (x / 256 ^ k % 256) := by rw [Nat.pow_succ]; exact Nat.mod_mul
    have e2 : a * 256 ^ (k + 1) = a * 256 * 256 ^ k := by rw [Nat.pow_succ, Nat.mul_assoc, Nat.mul_comm 256]
    have e3 : (UInt8.ofNat (x / 256 ^ k)).toNat = x / 256 ^ k % 256 := by simp
    rw [wideOf, List.foldl_cons, foldNum_wide x k, e, e2, e3, Nat.add_mul, Nat.mul_comm (256 ^ k)]
    omega
theorem numOf_wide (x k : Nat) : numOf (wideOf x k) = x % 256 ^ k := by
  unfold numOf
  rw [foldNum_wide]
  simp
theorem take_app (l r : List UInt8) : RdS.take ⟨l ++ r, 0⟩ l.length = (l, ⟨r, 0⟩) := by
  unfold RdS.take
  rw [if_pos rfl, if_neg (by simp)]
  simp
theorem U_uBytes (x : Nat) (hx : x < 18446744073709551616) (r : List UInt8) : RdS.U ⟨uBytes x ++ r, 0⟩ = (x, ⟨r, 0⟩) := by
  have h1 : RdS.take ⟨uBytes x ++ r, 0⟩ 1 = ([(headOf x).1], ⟨wideOf x (headOf x).2 ++ r, 0⟩) := take_app [(headOf x).1] _
  have key : ∀ c n, headOf x = (c, n) → 252 ≤ c.toNat → c ≠ 255 → moreOf c = n → x % 256 ^ n = x → RdS.U ⟨uBytes x ++ r, 0⟩ = (x, ⟨r, 0⟩) := by
    intro c n hh hc h5 hm hxn
    have h2 : RdS.take ⟨wideOf x n ++ r, 0⟩ n = (wideOf x n, ⟨r, 0⟩) := by
      have := take_app (wideOf x n) r
      rwa [wideOf_length] at this
    rw [hh] at h1
    unfold RdS.U
    rw [h1]
    simp only
    rw [if_neg (by omega), if_neg h5, hm, h2]
    simp only
    rw [numOf_wide, hxn, hh]
    simp
  rcases headOf_cases x with ⟨a1, a2⟩ | ⟨a0, a1, a2⟩ | ⟨a0, a1, a2⟩ | ⟨a0, a2⟩
  · rw [a2] at h1
    have ht : (UInt8.ofNat x).toNat = x := by simp; omega
    unfold RdS.U
    rw [h1]
    simp only
    rw [if_pos (by omega), ht]
    simp [wideOf]
  · exact key _ _ a2 (by decide) (by decide) (by decide) (Nat.mod_eq_of_lt (by omega))
  · exact key _ _ a2 (by decide) (by decide) (by decide) (Nat.mod_eq_of_lt (by omega))
  · exact key _ _ a2 (by decide) (by decide) (by decide) (Nat.mod_eq_of_lt (by omega))
theorem N_nBytes (n : Nat) (most : Int) (h : (n : Int) ≤ most) (hn : n < 18446744073709551616) (r : List UInt8) : RdS.N ⟨nBytes n ++ r, 0⟩ most = ((n : Int), ⟨r, 0⟩) := by
  have e : nBytes (n : Int) = uBytes n := rfl
  unfold RdS.N
  rw [e, U_uBytes n hn]
  rw [if_neg (by simp only; omega)]
theorem S_sBytes (s r : List UInt8) (most : Int) (h : (s.length : Int) ≤ most) (hn : s.length < 18446744073709551616) : RdS.S ⟨nBytes s.length ++ (s ++ r), 0⟩ most = (s, ⟨r, 0⟩) := by
  unfold RdS.S
  rw [N_nBytes s.length most h hn]
  exact take_app s r
theorem numOf_cons (b : UInt8) (l : List UInt8) : numOf (b :: l) = b.toNat * 256 ^ l.length + numOf l := by
  have key : ∀ (l : List UInt8) (a : Nat), l.foldl (fun v b => v * 256 + b.toNat) a = a * 256 ^ l.length + numOf l := by
    intro l
    induction l with
    | nil => intro a; simp [numOf]
    | cons c r ih =>
      intro a
      have h0 : numOf (c :: r) = c.toNat * 256 ^ r.length + numOf r := by
        show r.foldl _ (0 * 256 + c.toNat) = _
        rw [ih]; simp
      rw [List.foldl_cons, ih, h0, List.length_cons, Nat.pow_succ, Nat.add_mul, Nat.mul_assoc, Nat.mul_comm 256]
      omega
  show l.foldl _ (0 * 256 + b.toNat) = _
  rw [key]; simp
theorem wideOf_mod (x : Nat) : ∀ k m, k ≤ m → wideOf (x % 256 ^ m) k = wideOf x k
  | 0, _, _ => rfl
  | k + 1, m, h => by
    have e : UInt8.ofNat (x % 256 ^ m / 256 ^ k) = UInt8.ofNat (x / 256 ^ k) := by
      apply UInt8.toNat_inj.1
      simp only [UInt8.toNat_ofNat']
      obtain ⟨d, rfl⟩ : ∃ d, m = k + 1 + d := ⟨m - (k + 1), by omega⟩
      have h1 : x % 256 ^ (k + 1 + d) / 256 ^ k = x / 256 ^ k % 256 ^ (1 + d) := by
        rw [show k + 1 + d = k + (1 + d) by omega, Nat.pow_add, Nat.mod_mul_right_div_self]
      rw [h1, Nat.pow_add, Nat.pow_one, Nat.mod_mul_right_mod]
    rw [wideOf, wideOf, e, wideOf_mod x k m (by omega)]
theorem wide_numOf : ∀ l : List UInt8, wideOf (numOf l) l.length = l
  | [] => rfl
  | b :: r => by
    have hlt := numOf_lt r
    have hp : 0 < 256 ^ r.length := Nat.pow_pos (by decide)
    have h1 : numOf (b :: r) / 256 ^ r.length = b.toNat := by
      rw [numOf_cons, Nat.mul_comm, Nat.mul_add_div hp, Nat.div_eq_of_lt hlt, Nat.add_zero]
    have h2 : numOf (b :: r) % 256 ^ r.length = numOf r := by
      rw [numOf_cons, Nat.mul_comm, Nat.mul_add_mod, Nat.mod_eq_of_lt hlt]
    rw [List.length_cons, wideOf, h1, ← wideOf_mod (numOf (b :: r)) r.length r.length (Nat.le_refl _), h2, wide_numOf r]
    simp
theorem take_none (r : RdS) (n : Nat) (h : (r.take n).2.err ≠ 0) : (r.take n).1 = [] := by
  unfold RdS.take at *
  by_cases h0 : r.err = 0
  · rw [if_pos h0] at h ⊢
    by_cases h1 : r.left.length < n
    · rw [if_pos h1]
    · rw [if_neg h1] at h; exact absurd rfl h
  · rw [if_neg h0]
theorem take_len (r : RdS) (n : Nat) (h : (r.take n).2.err = 0) : (r.take n).1.length = n := by
  unfold RdS.take at *
  by_cases h0 : r.err = 0
  · rw [if_pos h0] at h ⊢
    by_cases h1 : r.left.length < n
    · rw [if_pos h1] at h; exact absurd h (show ¬ ((3 : Int) = 0) by decide)
    · rw [if_neg h1]; simp only [List.length_take]; omega
  · rw [if_neg h0] at h; exact absurd h h0
theorem take_one (r : RdS) (h : (r.take 1).2.err = 0) : ∃ c, (r.take 1).1 = [c] := by
  have := take_len r 1 h
  match hs : (r.take 1).1, this with
  | [c], _ => exact ⟨c, rfl⟩
theorem take_zero (l : List UInt8) : RdS.take ⟨l, 0⟩ 0 = ([], ⟨l, 0⟩) := by
  unfold RdS.take
  rw [if_pos rfl, if_neg (by omega)]
  rfl
theorem U_err (r : RdS) (h : (r.take 1).2.err ≠ 0) : r.U = (0, (r.take 1).2) := by
  unfold RdS.U
  rw [take_none r 1 h]
theorem U_small (r : RdS) (c : UInt8) (hs : (r.take 1).1 = [c]) (hc : c.toNat < 252) : r.U = (c.toNat, (r.take 1).2) := by
  unfold RdS.U
  rw [hs]
  simp only
  rw [if_pos hc]
theorem fail_err (r : RdS) (e : Int) (h : r.err ≠ 0) : r.fail e = r := by unfold RdS.fail; rw [if_neg h]
theorem fail_ok (r : RdS) (e : Int) (h : r.err = 0) : r.fail e = ⟨r.left, e⟩ := by unfold RdS.fail; rw [if_pos h]
theorem U_ff (r : RdS) (hs : (r.take 1).1 = [255]) (h : (r.take 1).2.err = 0) : r.U = (0, (r.take 1).2.fail 4) := by
  unfold RdS.U
  rw [hs]
  simp only
  rw [if_neg (by decide), if_pos trivial, fail_ok _ 4 h]
  have ht : RdS.take ⟨(r.take 1).2.left, 4⟩ (moreOf 255) = ([], ⟨(r.take 1).2.left, 4⟩) := by unfold RdS.take; rw [if_neg (show ¬ ((4 : Int) = 0) by decide)]
  rw [ht]
  simp only
  rw [if_neg (show ¬ (headOf (numOf [])).1 = 255 by decide), fail_err _ 4 (show (4 : Int) ≠ 0 by decide), if_neg (show ¬ ((4 : Int) = 0) by decide)]
theorem headOf_more (x : Nat) (c : UInt8) (h : (headOf x).1 = c) (hc : 252 ≤ c.toNat) : (headOf x).2 = moreOf c := by
  rcases headOf_cases x with ⟨a1, a2⟩ | ⟨a0, a1, a2⟩ | ⟨a0, a1, a2⟩ | ⟨a0, a2⟩
  · rw [a2] at h
    have := congrArg UInt8.toNat h
    simp at this
    omega
  · rw [a2] at h ⊢; subst h; rfl
  · rw [a2] at h ⊢; subst h; rfl
  · rw [a2] at h ⊢; subst h; rfl
/-- How a number behind a first byte from 252 to 254 is read. -/
theorem U_more (r : RdS) (c : UInt8) (hs : (r.take 1).1 = [c]) (hc : 252 ≤ c.toNat) (h5 : c ≠ 255) :
    (((r.take 1).2.take (moreOf c)).2.err ≠ 0 → r.U = (0, ((r.take 1).2.take (moreOf c)).2)) ∧
    (((r.take 1).2.take (moreOf c)).2.err = 0 → ((r.take 1).2.take (moreOf c)).1.length = moreOf c ∧
      r.U = if uBytes (numOf ((r.take 1).2.take (moreOf c)).1) = c :: ((r.take 1).2.take (moreOf c)).1 then (numOf ((r.take 1).2.take (moreOf c)).1, ((r.take 1).2.take (moreOf c)).2) else (0, ((r.take 1).2.take (moreOf c)).2.fail 4)) := by
  have hU : r.U = (if (if (headOf (numOf ((r.take 1).2.take (moreOf c)).1)).1 = c then ((r.take 1).2.take (moreOf c)).2 else ((r.take 1).2.take (moreOf c)).2.fail 4).err = 0 then numOf ((r.take 1).2.take (moreOf c)).1 else 0, if (headOf (numOf ((r.take 1).2.take (moreOf c)).1)).1 = c then ((r.take 1).2.take (moreOf c)).2 else ((r.take 1).2.take (moreOf c)).2.fail 4) := by
    unfold RdS.U
    rw [hs]
    simp only
    rw [if_neg (by omega), if_neg h5]
  have hlen := take_len (r.take 1).2 (moreOf c)
  generalize (r.take 1).2.take (moreOf c) = T at *
  obtain ⟨t, e⟩ := T
  simp only at hU hlen ⊢
  refine ⟨fun he => ?_, fun he => ⟨hlen he, ?_⟩⟩
  · rw [hU, fail_err e 4 he]
    simp [he]
  · have hiff : (headOf (numOf t)).1 = c ↔ uBytes (numOf t) = c :: t := by
      constructor
      · intro h
        have h2 := headOf_more _ c h hc
        unfold uBytes
        rw [h, h2, ← hlen he, wide_numOf]
      · intro h
        exact (List.cons.inj h).1
    rw [hU]
    by_cases hh : (headOf (numOf t)).1 = c
    · rw [if_pos hh, if_pos (hiff.1 hh), if_pos he]
    · rw [if_neg hh, if_neg (fun h => hh (hiff.2 h)), fail_ok e 4 he]
      simp
theorem U_zero (r : RdS) (h : r.U.2.err ≠ 0) : r.U.1 = 0 := by
  by_cases h1 : (r.take 1).2.err = 0
  · obtain ⟨c, hc⟩ := take_one r h1
    by_cases hs : c.toNat < 252
    · rw [U_small r c hc hs] at h; exact absurd h1 h
    · by_cases h5 : c = 255
      · subst h5; rw [U_ff r hc h1]
      · obtain ⟨q1, q2⟩ := U_more r c hc (by omega) h5
        by_cases h2 : ((r.take 1).2.take (moreOf c)).2.err = 0
        · obtain ⟨_, q⟩ := q2 h2
          rw [q] at h ⊢
          split
          · rename_i hh
            rw [if_pos hh] at h
            exact absurd h2 h
          · rfl
        · rw [q1 h2]
  · rw [U_err r h1]
theorem N_nat (r : RdS) (most : Int) : (r.N most).1 = (((r.N most).1.toNat : Nat) : Int) := by
  unfold RdS.N
  split
  · rfl
  · simp
theorem N_le (r : RdS) (most : Int) (h : 0 ≤ most) : (r.N most).1 ≤ most := by
  unfold RdS.N
  split
  · exact h
  · simp only; omega
theorem take_inv (r : RdS) (n : Nat) (h : (r.take n).2.err = 0) : r.err = 0 ∧ r.left = (r.take n).1 ++ (r.take n).2.left := by
  unfold RdS.take at *
  by_cases h0 : r.err = 0
  · rw [if_pos h0] at h ⊢
    by_cases h1 : r.left.length < n
    · rw [if_pos h1] at h; exact absurd h (show ¬ ((3 : Int) = 0) by decide)
    · rw [if_neg h1]; exact ⟨h0, (List.take_append_drop n r.left).symm⟩
  · rw [if_neg h0] at h; exact absurd h h0
theorem U_inv (r : RdS) (h : r.U.2.err = 0) : r.err = 0 ∧ r.left = uBytes r.U.1 ++ r.U.2.left := by
  by_cases h1 : (r.take 1).2.err = 0
  · obtain ⟨c, hc⟩ := take_one r h1
    obtain ⟨q0, q1⟩ := take_inv r 1 h1
    refine ⟨q0, ?_⟩
    rw [hc] at q1
    by_cases hs : c.toNat < 252
    · rw [U_small r c hc hs, q1]
      have : uBytes c.toNat = [c] := by
        unfold uBytes headOf
        rw [if_pos hs]
        simp [wideOf]
      rw [this]
    · by_cases h5 : c = 255
      · subst h5
        rw [U_ff r hc h1, fail_ok _ 4 h1] at h
        exact absurd h (show ¬ ((4 : Int) = 0) by decide)
      · obtain ⟨p1, p2⟩ := U_more r c hc (by omega) h5
        by_cases h2 : ((r.take 1).2.take (moreOf c)).2.err = 0
        · obtain ⟨_, q⟩ := p2 h2
          obtain ⟨_, q3⟩ := take_inv (r.take 1).2 (moreOf c) h2
          rw [q] at h ⊢
          split
          · rename_i hh
            rw [hh, q1, q3]
            simp
          · rename_i hh
            rw [if_neg hh, fail_ok _ 4 h2] at h
            exact absurd h (show ¬ ((4 : Int) = 0) by decide)
        · rw [p1 h2] at h; exact absurd h h2
  · rw [U_err r h1] at h; exact absurd h h1
theorem N_inv (r : RdS) (most : Int) (h : (r.N most).2.err = 0) : r.err = 0 ∧ r.left = nBytes (r.N most).1 ++ (r.N most).2.left := by
  unfold RdS.N at *
  by_cases hm : most < (r.U.1 : Int)
  · rw [if_pos hm] at h
    by_cases h1 : r.U.2.err = 0
    · rw [fail_ok _ 6 h1] at h
      exact absurd h (show ¬ ((6 : Int) = 0) by decide)
    · rw [fail_err _ 6 h1] at h; exact absurd h h1
  · rw [if_neg hm] at h ⊢
    exact U_inv r h
theorem S_inv (r : RdS) (most : Int) (h : (r.S most).2.err = 0) : r.err = 0 ∧ r.left = nBytes (r.S most).1.length ++ ((r.S most).1 ++ (r.S most).2.left) := by
  unfold RdS.S at *
  obtain ⟨q0, q1⟩ := take_inv _ _ h
  obtain ⟨q2, q3⟩ := N_inv r most q0
  refine ⟨q2, ?_⟩
  rw [take_len _ _ h, ← N_nat]
  rw [q3]
  congr 1
theorem done_inv (r : RdS) (h : r.done.err = 0) : r.err = 0 ∧ r.left = [] := by
  unfold RdS.done at h
  by_cases h0 : r.left = []
  · rw [if_pos h0] at h; exact ⟨h, h0⟩
  · rw [if_neg h0] at h
    by_cases h1 : r.err = 0
    · rw [fail_ok _ 4 h1] at h
      exact absurd h (show ¬ ((4 : Int) = 0) by decide)
    · rw [fail_err _ 4 h1] at h; exact absurd h h1
end Go.Proofs.Ytfhmdeamhmjddaa

/-
  An acceptor's bytes, read back: what is written is read again, and what is read is written as just those bytes. Plain laws; no program in sight.
-/
set_option linter.unusedVariables false
set_option linter.unusedSimpArgs false
namespace Go.Proofs.Ytfhmdeamhmjddaa

def RdS.bal (r : RdS) : BalS × RdS :=
  let u := r.U
  let n := u.2.N 11
  let q := if u.1 = 0 ∧ 0 < n.1 then n.2.fail 4 else n.2
  (if q.err = 0 then ⟨u.1, n.1⟩ else ⟨0, 0⟩, q)
def entryOf (r : RdS) (last most : Int) : EntS × RdS :=
  let s := r.N 1099511627776
  let q := if s.1 ≤ last then s.2.fail 4 else s.2
  let t := q.bal.2.S most
  (⟨s.1, q.bal.1, txt t.1⟩, t.2)
def entsOf (most : Int) : Nat → RdS → Int → List EntS × RdS
  | 0, r, _ => ([], r)
  | n + 1, r, last => if r.err = 0 then ((entryOf r last most).1 :: (entsOf most n (entryOf r last most).2 (entryOf r last most).1.slot).1, (entsOf most n (entryOf r last most).2 (entryOf r last most).1.slot).2) else ([], r)
def mostOf (wit : Bool) : Int := if wit = true then 8 else 400
/-- What Get answers, and what is left. -/
def accOf (r : RdS) (wit : Bool) : Option AccS × RdS :=
  let b := r.bal
  let base := b.2.N 1099511627776
  let cnt := base.2.N 64
  let es := entsOf (mostOf wit) cnt.1.toNat cnt.2 base.1
  let node := es.2.N 12
  let til := node.2.N 1099511627776
  let q := if node.1 = 0 ∧ 0 < til.1 then til.2.fail 4 else til.2
  (if q.err = 0 then some ⟨wit, b.1, base.1, es.1, node.1, til.1⟩ else none, q)

/-- What a ballot is beside its numbers: the first one is 0 0. -/
def BalS.nil0 (b : BalS) : Prop := b.c = 0 → b.n = 0
/-- Each entry's slot is above the one ahead of it. -/
def Rising : Int → List EntS → Prop
  | _, [] => True
  | a, e :: r => a < e.slot ∧ Rising e.slot r

theorem N_int (z most : Int) (h0 : 0 ≤ z) (h : z ≤ most) (hm : most ≤ 1099511627776) (r : List UInt8) : RdS.N ⟨nBytes z ++ r, 0⟩ most = (z, ⟨r, 0⟩) := by
  obtain ⟨n, rfl⟩ : ∃ n : Nat, z = n := ⟨z.toNat, by omega⟩
  exact N_nBytes n most h (by omega) r
theorem bal_back (b : BalS) (hb : b.ok) (h0 : b.nil0) (r : List UInt8) : RdS.bal ⟨uBytes b.c.toNat ++ (nBytes b.n ++ r), 0⟩ = (b, ⟨r, 0⟩) := by
  have := hb.c0; have := hb.c1; have := hb.n0; have := hb.n1
  unfold RdS.bal
  rw [U_uBytes b.c.toNat (by omega)]
  simp only
  rw [N_int b.n 11 (by omega) (by omega) (by decide)]
  simp only
  rw [if_neg (show ¬ (b.c.toNat = 0 ∧ 0 < b.n) from fun h => by have := h0 (by omega); omega)]
  simp only [if_true]
  obtain ⟨c, n⟩ := b
  simp only at *
  rw [show ((c.toNat : Nat) : Int) = c by omega]
theorem entry_back (e : EntS) (he : e.ok) (h0 : e.bal.nil0) (last most : Int) (hl : last < e.slot) (hm : (e.text.size : Int) ≤ most) (r : List UInt8) : entryOf ⟨entBytes e ++ r, 0⟩ last most = (e, ⟨r, 0⟩) := by
  have hx : entBytes e ++ r = nBytes e.slot ++ ((uBytes e.bal.c.toNat ++ (nBytes e.bal.n ++ (nBytes e.text.size ++ (e.text.data.toList ++ r))))) := by
    unfold entBytes sBytes; simp only [List.append_assoc]
  have hz : e.text.data.toList.length = e.text.size := by rw [Array.length_toList, ByteArray.size_data]
  have := he.text
  unfold entryOf
  rw [hx, N_int e.slot 1099511627776 he.slot0 he.slot1 (by decide)]
  simp only
  rw [if_neg (by omega), bal_back e.bal he.bal h0]
  simp only
  have hs := S_sBytes e.text.data.toList r most (by omega) (by omega)
  rw [hz] at hs
  rw [hs]
  obtain ⟨s, b, t⟩ := e
  simp only [Prod.mk.injEq, and_true, EntS.mk.injEq, true_and]
  exact txt_data t
theorem ents_back (most : Int) : ∀ (l : List EntS) (last : Int) (r : List UInt8), (∀ e ∈ l, e.ok) → (∀ e ∈ l, e.bal.nil0) → (∀ e ∈ l, (e.text.size : Int) ≤ most) → Rising last l → entsOf most l.length ⟨l.flatMap entBytes ++ r, 0⟩ last = (l, ⟨r, 0⟩)
  | [], _, r, _, _, _, _ => rfl
  | e :: l, last, r, h1, h2, h3, h4 => by
    have hb := entry_back e (h1 e (by simp)) (h2 e (by simp)) last most h4.1 (h3 e (by simp)) (l.flatMap entBytes ++ r)
    have ih := ents_back most l e.slot r (fun x hx => h1 x (by simp [hx])) (fun x hx => h2 x (by simp [hx])) (fun x hx => h3 x (by simp [hx])) h4.2
    rw [List.flatMap_cons, List.append_assoc, List.length_cons, entsOf, if_pos rfl, hb]
    simp only
    rw [ih]

/-- What else there is to an acceptor that came about by calls. -/
structure AccS.legal (d : AccS) : Prop where
  bal : d.bal.nil0
  ents : ∀ e ∈ d.list, e.bal.nil0
  texts : ∀ e ∈ d.list, (e.text.size : Int) ≤ mostOf d.wit
  node : d.node ≤ 12
  til : d.node = 0 → d.til = 0
theorem rising_of : ∀ (l : List EntS) (a : Int), (∀ e ∈ l, a < e.slot) → l.Pairwise (fun x y => x.slot < y.slot) → Rising a l
  | [], _, _, _ => trivial
  | e :: l, a, h, hp => ⟨h e (by simp), rising_of l e.slot (fun x hx => (List.pairwise_cons.1 hp).1 x hx) (List.pairwise_cons.1 hp).2⟩
theorem acc_back (d : AccS) (hs : d.small) (hg : d.legal) (hr : Rising d.base d.list) (r : List UInt8) : accOf ⟨d.bytes ++ r, 0⟩ d.wit = (some d, ⟨r, 0⟩) := by
  have hx : d.bytes ++ r = uBytes d.bal.c.toNat ++ (nBytes d.bal.n ++ (nBytes d.base ++ (nBytes (d.list.length : Int) ++ (d.list.flatMap entBytes ++ (nBytes d.node ++ (nBytes d.til ++ r)))))) := by
    unfold AccS.bytes; simp only [List.append_assoc]
  have := hs.fine.base0; have := hs.fine.base1; have := hs.above.few; have := hs.fine.node0; have := hs.fine.til0; have := hs.fine.til1; have := hg.node
  unfold accOf
  rw [hx, bal_back d.bal hs.bal hg.bal]
  simp only
  rw [N_int d.base 1099511627776 (by omega) (by omega) (by decide)]
  simp only
  rw [N_int (d.list.length : Int) 64 (by omega) (by omega) (by decide)]
  simp only
  rw [Int.toNat_natCast, ents_back (mostOf d.wit) d.list d.base _ hs.ents hg.ents hg.texts hr]
  simp only
  rw [N_int d.node 12 (by omega) (by omega) (by decide)]
  simp only
  rw [N_int d.til 1099511627776 (by omega) (by omega) (by decide)]
  simp only
  rw [if_neg (show ¬ (d.node = 0 ∧ 0 < d.til) from fun h => by have := hg.til h.1; omega)]
  simp only [if_true]

theorem N_rng (r : RdS) (most : Int) (h : 0 ≤ most) : 0 ≤ (r.N most).1 ∧ (r.N most).1 ≤ most := by
  have h1 := N_nat r most
  exact ⟨by omega, N_le r most h⟩
theorem fail_not (r : RdS) (e : Int) (he : e ≠ 0) (h : (r.fail e).err = 0) : False := by
  by_cases h0 : r.err = 0
  · rw [fail_ok r e h0] at h; exact he h
  · rw [fail_err r e h0] at h; exact h0 h
theorem bal_forth (r : RdS) (h : r.bal.2.err = 0) : r.err = 0 ∧ r.bal.1.ok ∧ r.bal.1.nil0 ∧ r.left = uBytes r.bal.1.c.toNat ++ (nBytes r.bal.1.n ++ r.bal.2.left) := by
  unfold RdS.bal at *
  simp only at *
  have hu := U_lt r
  obtain ⟨n0, n1⟩ := N_rng r.U.2 11 (by decide)
  by_cases hc : r.U.1 = 0 ∧ 0 < (r.U.2.N 11).1
  · rw [if_pos hc] at h
    exact absurd h (fun h => fail_not _ 4 (by decide) h)
  · rw [if_neg hc] at h ⊢
    rw [if_pos h]
    obtain ⟨q1, q2⟩ := N_inv r.U.2 11 h
    obtain ⟨q3, q4⟩ := U_inv r q1
    refine ⟨q3, ⟨by simp only; omega, by simp only; omega, n0, n1⟩, fun hz => ?_, ?_⟩
    · simp only at hz ⊢; omega
    · simp only
      rw [Int.toNat_natCast, ← q2]
      exact q4
theorem entry_forth (r : RdS) (last most : Int) (hm0 : 0 ≤ most) (hm : most ≤ 400) (hl : -1 ≤ last) (h : (entryOf r last most).2.err = 0) :
    r.err = 0 ∧ (entryOf r last most).1.ok ∧ (entryOf r last most).1.bal.nil0 ∧ last < (entryOf r last most).1.slot ∧ r.left = entBytes (entryOf r last most).1 ++ (entryOf r last most).2.left := by
  unfold entryOf at *
  simp only at *
  obtain ⟨s0, s1⟩ := N_rng r 1099511627776 (by decide)
  by_cases hc : (r.N 1099511627776).1 ≤ last
  · rw [if_pos hc] at h
    obtain ⟨q1, _⟩ := S_inv _ _ h
    obtain ⟨q3, _⟩ := bal_forth _ q1
    exact absurd q3 (fun h => fail_not _ 4 (by decide) h)
  · rw [if_neg hc] at h ⊢
    obtain ⟨q1, q2⟩ := S_inv _ _ h
    obtain ⟨q3, q4, q5, q6⟩ := bal_forth _ q1
    obtain ⟨q7, q8⟩ := N_inv r _ q3
    have hsz : ((r.N 1099511627776).2.bal.2.S most).1.length ≤ 400 := by
      have h1 := (take_le ((r.N 1099511627776).2.bal.2.N most).2 ((r.N 1099511627776).2.bal.2.N most).1.toNat).1
      have h2 := N_rng (r.N 1099511627776).2.bal.2 most hm0
      show ((((r.N 1099511627776).2.bal.2.N most).2.take ((r.N 1099511627776).2.bal.2.N most).1.toNat).1).length ≤ 400
      omega
    refine ⟨q7, ⟨s0, s1, q4, by simp only [txt_size]; exact hsz⟩, q5, by omega, ?_⟩
    unfold entBytes sBytes
    simp only [txt_size]
    rw [show (txt ((r.N 1099511627776).2.bal.2.S most).1).data.toList = ((r.N 1099511627776).2.bal.2.S most).1 by simp [txt]]
    simp only [List.append_assoc]
    rw [← q2, ← q6]
    exact q8
theorem ents_forth (most : Int) (hm0 : 0 ≤ most) (hm : most ≤ 400) : ∀ (n : Nat) (r : RdS) (last : Int), -1 ≤ last → (entsOf most n r last).2.err = 0 →
    r.err = 0 ∧ (∀ e ∈ (entsOf most n r last).1, e.ok) ∧ Rising last (entsOf most n r last).1 ∧ (entsOf most n r last).1.length = n ∧ r.left = (entsOf most n r last).1.flatMap entBytes ++ (entsOf most n r last).2.left
  | 0, r, last, _, h => ⟨h, by simp [entsOf], trivial, rfl, by simp [entsOf]⟩
  | n + 1, r, last, hl, h => by
    by_cases h0 : r.err = 0
    · rw [entsOf, if_pos h0] at h ⊢
      simp only at h ⊢
      have hs := N_rng r 1099511627776 (by decide)
      have hsl : -1 ≤ (entryOf r last most).1.slot := by
        show -1 ≤ (r.N 1099511627776).1
        omega
      obtain ⟨p1, p2, p3, p4, p5⟩ := ents_forth most hm0 hm n (entryOf r last most).2 (entryOf r last most).1.slot hsl h
      obtain ⟨q1, q2, q3, q4, q5⟩ := entry_forth r last most hm0 hm hl p1
      refine ⟨h0, fun e he => ?_, ⟨q4, p3⟩, by simp only [List.length_cons, p4], ?_⟩
      · rcases List.mem_cons.1 he with rfl | he
        · exact q2
        · exact p2 e he
      · rw [List.flatMap_cons, List.append_assoc, ← p5]
        exact q5
    · rw [entsOf, if_neg h0] at h
      exact absurd h h0
theorem rising_all : ∀ (l : List EntS) (a : Int), Rising a l → (∀ e ∈ l, a < e.slot) ∧ l.Pairwise (fun x y => x.slot < y.slot)
  | [], _, _ => ⟨by simp, List.Pairwise.nil⟩
  | e :: l, a, h => by
    obtain ⟨h1, h2⟩ := rising_all l e.slot h.2
    refine ⟨fun x hx => ?_, List.pairwise_cons.2 ⟨h1, h2⟩⟩
    rcases List.mem_cons.1 hx with rfl | hx
    · exact h.1
    · exact Int.lt_trans h.1 (h1 x hx)
theorem sorted_of (l : List EntS) (hl : l.length ≤ 64) (h : l.Pairwise (fun x y => x.slot < y.slot)) (hs : ∀ e ∈ l, 0 ≤ e.slot ∧ e.slot ≤ 1099511627776) : SortedE l :=
  ⟨by omega, fun e he => ⟨by have := (hs e he).1; omega, (hs e he).2⟩, h⟩
/-- What is read is an acceptor as there may be, and is written as just those bytes. -/
theorem acc_forth (r : RdS) (wit : Bool) (d : AccS) (q : RdS) (h : accOf r wit = (some d, q)) : q.err = 0 ∧ d.wit = wit ∧ d.small ∧ r.left = d.bytes ++ q.left := by
  have hm0 : 0 ≤ mostOf wit ∧ mostOf wit ≤ 400 := by unfold mostOf; split <;> decide
  unfold accOf at h
  simp only at h
  by_cases hq : (if ((entsOf (mostOf wit) (((r.bal.2.N 1099511627776).2.N 64).1.toNat) ((r.bal.2.N 1099511627776).2.N 64).2 (r.bal.2.N 1099511627776).1).2.N 12).1 = 0 ∧ 0 < (((entsOf (mostOf wit) (((r.bal.2.N 1099511627776).2.N 64).1.toNat) ((r.bal.2.N 1099511627776).2.N 64).2 (r.bal.2.N 1099511627776).1).2.N 12).2.N 1099511627776).1 then (((entsOf (mostOf wit) (((r.bal.2.N 1099511627776).2.N 64).1.toNat) ((r.bal.2.N 1099511627776).2.N 64).2 (r.bal.2.N 1099511627776).1).2.N 12).2.N 1099511627776).2.fail 4 else (((entsOf (mostOf wit) (((r.bal.2.N 1099511627776).2.N 64).1.toNat) ((r.bal.2.N 1099511627776).2.N 64).2 (r.bal.2.N 1099511627776).1).2.N 12).2.N 1099511627776).2).err = 0
  · rw [if_pos hq] at h
    injection h with h1 h2
    injection h1 with h1
    have hqe := hq
    rw [h2] at hq
    by_cases hc : ((entsOf (mostOf wit) (((r.bal.2.N 1099511627776).2.N 64).1.toNat) ((r.bal.2.N 1099511627776).2.N 64).2 (r.bal.2.N 1099511627776).1).2.N 12).1 = 0 ∧ 0 < (((entsOf (mostOf wit) (((r.bal.2.N 1099511627776).2.N 64).1.toNat) ((r.bal.2.N 1099511627776).2.N 64).2 (r.bal.2.N 1099511627776).1).2.N 12).2.N 1099511627776).1
    · rw [if_pos hc] at hqe
      exact absurd hqe (fun h => fail_not _ 4 (by decide) h)
    · rw [if_neg hc] at hqe h2
      obtain ⟨t1, t2⟩ := N_inv _ _ hqe
      obtain ⟨n1, n2⟩ := N_inv _ _ t1
      obtain ⟨b0, b1⟩ := N_rng r.bal.2 1099511627776 (by decide)
      obtain ⟨c0, c1⟩ := N_rng (r.bal.2.N 1099511627776).2 64 (by decide)
      obtain ⟨e1, e2, e3, e4, e5⟩ := ents_forth (mostOf wit) hm0.1 hm0.2 _ _ _ (by omega) n1
      obtain ⟨k1, k2⟩ := N_inv _ _ e1
      obtain ⟨g1, g2⟩ := N_inv _ _ k1
      obtain ⟨a1, a2, a3, a4⟩ := bal_forth _ g1
      obtain ⟨d0, d1⟩ := N_rng (entsOf (mostOf wit) (((r.bal.2.N 1099511627776).2.N 64).1.toNat) ((r.bal.2.N 1099511627776).2.N 64).2 (r.bal.2.N 1099511627776).1).2 12 (by decide)
      obtain ⟨u0, u1⟩ := N_rng ((entsOf (mostOf wit) (((r.bal.2.N 1099511627776).2.N 64).1.toNat) ((r.bal.2.N 1099511627776).2.N 64).2 (r.bal.2.N 1099511627776).1).2.N 12).2 1099511627776 (by decide)
      generalize entsOf (mostOf wit) (((r.bal.2.N 1099511627776).2.N 64).1.toNat) ((r.bal.2.N 1099511627776).2.N 64).2 (r.bal.2.N 1099511627776).1 = ES at *
      obtain ⟨es, er⟩ := ES
      simp only at *
      obtain ⟨p1, p2⟩ := rising_all es _ e3
      have hlen : es.length ≤ 64 := by omega
      have hlc : (es.length : Int) = ((r.bal.2.N 1099511627776).2.N 64).1 := by omega
      subst h1
      refine ⟨hq, rfl, ⟨⟨sorted_of es hlen p2 (fun e he => ⟨(e2 e he).slot0, (e2 e he).slot1⟩), b0, b1, d0, by simp only; omega, u0, u1⟩, ⟨p1, hlen⟩, a2, e2⟩, ?_⟩
      unfold AccS.bytes
      simp only [List.append_assoc]
      rw [hlc, ← h2, ← t2, ← n2, ← e5, ← k2, ← g2]
      exact a4
  · rw [if_neg hq] at h
    injection h with h1 _
    cases h1
theorem rising_small (d : AccS) (h : d.small) : Rising d.base d.list := rising_of d.list d.base h.above.up h.fine.sorted.order
theorem prepare_legal (d : AccS) (m : MsgS) (now : Int) (hd : d.legal) (hb : m.bal.nil0) : (d.prepare m now).1.legal := by
  unfold AccS.prepare
  split
  · exact hd
  · split
    · exact hd
    · exact ⟨hb, hd.ents, hd.texts, hd.node, hd.til⟩
theorem kept_most (d : AccS) (s : ByteArray) (h : s.size ≤ 400) : ((d.kept s).size : Int) ≤ mostOf d.wit := by
  unfold AccS.kept mostOf
  split
  · rw [digestOf_size]; decide
  · omega
theorem accept_legal (d : AccS) (m : MsgS) (hd : d.legal) (hb : m.bal.nil0) (ht : m.text.size ≤ 400) : (d.accept m).1.legal := by
  have hk := kept_most d m.text ht
  unfold AccS.accept
  by_cases h1 : d.low m.bal = true
  · rw [if_pos h1]; exact hd
  · rw [if_neg h1]
    unfold AccS.acceptOn
    simp only
    by_cases h2 : d.base < m.slot
    · rw [if_pos h2]
      by_cases h3 : hasSlot d.list m.slot = true
      · rw [if_pos h3]
        split
        · exact ⟨hb, hd.ents, hd.texts, hd.node, hd.til⟩
        · refine ⟨hb, fun e he => ?_, fun e he => ?_, hd.node, hd.til⟩
          · rcases List.mem_or_eq_of_mem_set he with h | rfl
            · exact hd.ents e h
            · exact hb
          · rcases List.mem_or_eq_of_mem_set he with h | rfl
            · exact hd.texts e h
            · exact hk
      · rw [if_neg h3]
        by_cases h4 : 64 ≤ d.list.length
        · rw [if_pos h4]; exact hd
        · rw [if_neg h4]
          have hmem : ∀ e, e ∈ d.list.take (aheadOf d.list m.slot) ++ (⟨m.slot, m.bal, d.kept m.text⟩ : EntS) :: d.list.drop (aheadOf d.list m.slot) → e ∈ d.list ∨ e = ⟨m.slot, m.bal, d.kept m.text⟩ := fun e he => by
            rcases List.mem_append.1 he with h | h
            · exact .inl (List.mem_of_mem_take h)
            · rcases List.mem_cons.1 h with h | h
              · exact .inr h
              · exact .inl (List.mem_of_mem_drop h)
          refine ⟨hb, fun e he => ?_, fun e he => ?_, hd.node, hd.til⟩
          · rcases hmem e he with h | rfl
            · exact hd.ents e h
            · exact hb
          · rcases hmem e he with h | rfl
            · exact hd.texts e h
            · exact hk
    · rw [if_neg h2]
      exact ⟨hb, hd.ents, hd.texts, hd.node, hd.til⟩
theorem ask_legal (d : AccS) (m : MsgS) (now long : Int) (hd : d.legal) (hb : m.bal.nil0) (hf0 : 0 ≤ m.frm) (hf1 : m.frm ≤ 11) : (d.ask m now long).1.legal := by
  unfold AccS.ask
  split
  · exact hd
  · split
    · exact hd
    · exact ⟨hb, hd.ents, hd.texts, by simp only; omega, fun h => by simp only at h; omega⟩
theorem trim_legal (d : AccS) (base : Int) (hd : d.legal) : (d.trim base).legal := by
  unfold AccS.trim
  split
  · exact ⟨hd.bal, fun e he => hd.ents e (List.mem_filter.1 he).1, fun e he => hd.texts e (List.mem_filter.1 he).1, hd.node, hd.til⟩
  · exact hd
theorem run_legal (x : ActS) (d : AccS) (hx : x.small) (hb : x.bal.nil0) (hf : x.frm ≤ 11) (hd : d.legal) : (x.run d).legal := by
  have := hx.frm0; have := hx.text
  unfold ActS.run
  split
  · exact prepare_legal d x.msg x.now hd hb
  · split
    · exact accept_legal d x.msg hd hb (by simp only [ActS.msg]; omega)
    · split
      · exact ask_legal d x.msg x.now x.long hd hb (by simp only [ActS.msg]; omega) (by simp only [ActS.msg]; omega)
      · split
        · exact trim_legal d x.slot hd
        · exact hd
theorem few_nil0 (x : ActS) : x.few.bal.nil0 ∧ x.few.frm ≤ 11 := by
  refine ⟨fun h => ?_, by simp only [ActS.few]; omega⟩
  simp only [ActS.few, BalS.right] at h ⊢
  rw [if_pos h]
theorem acc0_legal (wit : Bool) : (acc0 wit).legal := ⟨fun _ => rfl, by simp [acc0], by simp [acc0], by simp [acc0], fun _ => rfl⟩
end Go.Proofs.Ytfhmdeamhmjddaa
