/-
  The other half of numOf_wide: bytes are the wide form of their number. A plain law; no program in sight.
-/
import Derived.Test.YtjaoiaknglnomaaTwin7
set_option linter.unusedVariables false
set_option linter.unusedSimpArgs false
namespace Go.Proofs.Ytjaoiaknglnomaa

theorem numOf_cons (b : UInt8) (l : List UInt8) : numOf (b :: l) = b.toNat * 256 ^ l.length + numOf l := by
  have key : ∀ (l : List UInt8) (a : Nat), l.foldl (fun v b => v * 256 + b.toNat) a = a * 256 ^ l.length + numOf l := by
    intro l
    induction l with
    | nil => intro a; simp [numOf]
    | cons c r ih =>
      intro a
      have h0 : numOf (c :: r) = c.toNat * 256 ^ r.length + numOf r := by
        show r.foldl _ (0 * 256 + c.toNat) = _
        rw [ih]; simp
      rw [List.foldl_cons, ih, h0, List.length_cons, Nat.pow_succ, Nat.add_mul, Nat.mul_assoc, Nat.mul_comm 256]
      omega
  show l.foldl _ (0 * 256 + b.toNat) = _
  rw [key]; simp
theorem wideOf_mod (x : Nat) : ∀ k m, k ≤ m → wideOf (x % 256 ^ m) k = wideOf x k
  | 0, _, _ => rfl
  | k + 1, m, h => by
    have e : UInt8.ofNat (x % 256 ^ m / 256 ^ k) = UInt8.ofNat (x / 256 ^ k) := by
      apply UInt8.toNat_inj.1
      simp only [UInt8.toNat_ofNat']
      obtain ⟨d, rfl⟩ : ∃ d, m = k + 1 + d := ⟨m - (k + 1), by omega⟩
      have h1 : x % 256 ^ (k + 1 + d) / 256 ^ k = x / 256 ^ k % 256 ^ (1 + d) := by
        rw [show k + 1 + d = k + (1 + d) by omega, Nat.pow_add, Nat.mod_mul_right_div_self]
      rw [h1, Nat.pow_add, Nat.pow_one, Nat.mod_mul_right_mod]
    rw [wideOf, wideOf, e, wideOf_mod x k m (by omega)]
theorem wide_numOf : ∀ l : List UInt8, wideOf (numOf l) l.length = l
  | [] => rfl
  | b :: r => by
    have hlt := numOf_lt r
    have hp : 0 < 256 ^ r.length := Nat.pow_pos (by decide)
    have h1 : numOf (b :: r) / 256 ^ r.length = b.toNat := by
      rw [numOf_cons, Nat.mul_comm, Nat.mul_add_div hp, Nat.div_eq_of_lt hlt, Nat.add_zero]
    have h2 : numOf (b :: r) % 256 ^ r.length = numOf r := by
      rw [numOf_cons, Nat.mul_comm, Nat.mul_add_mod, Nat.mod_eq_of_lt hlt]
    rw [List.length_cons, wideOf, h1, ← wideOf_mod (numOf (b :: r)) r.length r.length (Nat.le_refl _), h2, wide_numOf r]
    simp
theorem xor_cancel {a b p : Nat} (h : a ^^^ p = b ^^^ p) : a = b := by
  have := congrArg (fun z => z ^^^ p) h
  simpa [Nat.xor_assoc] using this
theorem crcStep_inj (a b : Nat) (ha : a < 4294967296) (hb : b < 4294967296) (h : crcStep a = crcStep b) : a = b := by
  have top : ∀ x : Nat, x < 4294967296 → (x / 2).testBit 31 = false := fun x hx => Nat.testBit_lt_two_pow (by omega)
  have pt : polyN.testBit 31 = true := by decide
  unfold crcStep at h
  by_cases h1 : a % 2 = 1 <;> by_cases h2 : b % 2 = 1
  · rw [if_pos h1, if_pos h2] at h
    have := xor_cancel h
    omega
  · rw [if_pos h1, if_neg h2] at h
    have := congrArg (fun z => z.testBit 31) h
    simp [Nat.testBit_xor, top a ha, top b hb, pt] at this
  · rw [if_neg h1, if_pos h2] at h
    have := congrArg (fun z => z.testBit 31) h
    simp [Nat.testBit_xor, top a ha, top b hb, pt] at this
  · rw [if_neg h1, if_neg h2] at h
    omega
theorem crcSteps_inj (a b : Nat) (ha : a < 4294967296) (hb : b < 4294967296) : ∀ n, crcSteps a n = crcSteps b n → a = b
  | 0, h => h
  | n + 1, h => crcSteps_inj a b ha hb n (crcStep_inj _ _ (crcSteps_lt a ha n) (crcSteps_lt b hb n) h)
/-- The sum's step tells two sums, and two bytes, apart. -/
theorem moreN_inj (c d : Nat) (x y : UInt8) (hc : c < 4294967296) (hd : d < 4294967296) (h : moreN c x = moreN d y) : c ^^^ x.toNat = d ^^^ y.toNat := by
  have hx := x.toNat_lt
  have hy := y.toNat_lt
  exact crcSteps_inj _ _ (Nat.xor_lt_two_pow (n := 32) (by omega) (by omega)) (Nat.xor_lt_two_pow (n := 32) (by omega) (by omega)) 8 h
theorem fold_inj (l : List UInt8) : ∀ c d : Nat, c < 4294967296 → d < 4294967296 → l.foldl moreN c = l.foldl moreN d → c = d := by
  induction l with
  | nil => intro c d _ _ h; exact h
  | cons b r ih =>
    intro c d hc hd h
    have := ih _ _ (moreN_lt c b hc) (moreN_lt d b hd) h
    exact xor_cancel (moreN_inj c d b b hc hd this)
/-- Two stretches that differ in one byte differ in their sums. -/
theorem sumN_one (p q : List UInt8) (x y : UInt8) (h : sumN (p ++ x :: q) = sumN (p ++ y :: q)) : x = y := by
  have hc := foldMore_lt p 4294967295 (by omega)
  have h1 := foldMore_lt q _ (moreN_lt _ x hc)
  have h2 := foldMore_lt q _ (moreN_lt _ y hc)
  unfold sumN at h
  simp only [List.foldl_append, List.foldl_cons] at h
  have h3 := fold_inj q _ _ (moreN_lt _ x hc) (moreN_lt _ y hc) (by omega)
  have h4 := moreN_inj _ _ x y hc hc h3
  rw [Nat.xor_comm, Nat.xor_comm _ y.toNat] at h4
  exact UInt8.toNat_inj.1 (xor_cancel h4)
end Go.Proofs.Ytjaoiaknglnomaa
