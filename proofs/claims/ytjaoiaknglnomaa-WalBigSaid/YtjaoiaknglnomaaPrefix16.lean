/-
  Numbers as bytes are prefix codes: what is written tells what was written. No condition but that the numbers are of 64 bits.
-/
import Derived.Test.YtjaoiaknglnomaaCode3
set_option linter.unusedVariables false
namespace Go.Proofs.Ytjaoiaknglnomaa

theorem wideOf_inj (x y : Nat) : ∀ k, wideOf x k = wideOf y k → x % 256 ^ k = y % 256 ^ k
  | 0, _ => by simp [Nat.mod_one]
  | k + 1, h => by
    simp only [wideOf, List.cons.injEq] at h
    have ih := wideOf_inj x y k h.2
    have h1 : x / 256 ^ k % 256 = y / 256 ^ k % 256 := by
      have := congrArg UInt8.toNat h.1
      simpa using this
    have e : ∀ z : Nat, z % 256 ^ (k + 1) = z % 256 ^ k + 256 ^ k * (z / 256 ^ k % 256) := fun z => by rw [Nat.pow_succ]; exact Nat.mod_mul
    rw [e x, e y, ih, h1]
theorem headOf_cases (x : Nat) : (x < 252 ∧ headOf x = (UInt8.ofNat x, 0)) ∨ (252 ≤ x ∧ x < 65536 ∧ headOf x = (252, 2)) ∨ (65536 ≤ x ∧ x < 4294967296 ∧ headOf x = (253, 4)) ∨ (4294967296 ≤ x ∧ headOf x = (254, 8)) := by
  unfold headOf
  split
  · exact .inl ⟨by assumption, rfl⟩
  · split
    · exact .inr (.inl ⟨by omega, by assumption, rfl⟩)
    · split
      · exact .inr (.inr (.inl ⟨by omega, by assumption, rfl⟩))
      · exact .inr (.inr (.inr ⟨by omega, rfl⟩))
theorem uBytes_prefix (x y : Nat) (hx : x < 18446744073709551616) (hy : y < 18446744073709551616) (r s : List UInt8) (h : uBytes x ++ r = uBytes y ++ s) : x = y ∧ r = s := by
  have e : ∀ z : Nat, z < 18446744073709551616 → z % 256 ^ (headOf z).2 = z ∨ (headOf z).2 = 0 := fun z hz => by
    unfold headOf
    split
    · exact .inr rfl
    · split
      · exact .inl (Nat.mod_eq_of_lt (by simp only; omega))
      · split
        · exact .inl (Nat.mod_eq_of_lt (by simp only; omega))
        · exact .inl (Nat.mod_eq_of_lt (by simp only; omega))
  simp only [uBytes, List.cons_append, List.cons.injEq] at h
  obtain ⟨h1, h2⟩ := h
  have hc : (headOf x).2 = (headOf y).2 ∧ ((headOf x).2 = 0 → x = y) := by
    have ht := congrArg UInt8.toNat h1
    rcases headOf_cases x with ⟨a1, a2⟩ | ⟨a0, a1, a2⟩ | ⟨a0, a1, a2⟩ | ⟨a0, a2⟩ <;> rcases headOf_cases y with ⟨b1, b2⟩ | ⟨b0, b1, b2⟩ | ⟨b0, b1, b2⟩ | ⟨b0, b2⟩ <;> rw [a2, b2] at ht ⊢ <;> simp at ht ⊢ <;> omega
  rw [hc.1] at h2
  have h3 := List.append_inj h2 (by simp [wideOf_length])
  refine ⟨?_, h3.2⟩
  rcases e x hx with hz | hz
  · rcases e y hy with hw | hw
    · have := wideOf_inj x y _ h3.1
      rw [← hc.1, hz, hc.1, hw] at this
      exact this
    · exact hc.2 (hc.1.trans hw)
  · exact hc.2 hz
theorem nBytes_prefix (x y : Int) (hx : 0 ≤ x ∧ x ≤ 9223372036854775807) (hy : 0 ≤ y ∧ y ≤ 9223372036854775807) (r s : List UInt8) (h : nBytes x ++ r = nBytes y ++ s) : x = y ∧ r = s := by
  obtain ⟨h1, h2⟩ := uBytes_prefix x.toNat y.toNat (by omega) (by omega) r s h
  exact ⟨by omega, h2⟩
theorem sBytes_prefix (a b : ByteArray) (ha : a.size ≤ 9223372036854775807) (hb : b.size ≤ 9223372036854775807) (r s : List UInt8) (h : sBytes a ++ r = sBytes b ++ s) : a = b ∧ r = s := by
  unfold sBytes at h
  rw [List.append_assoc, List.append_assoc] at h
  obtain ⟨h1, h2⟩ := nBytes_prefix a.size b.size (by omega) (by omega) _ _ h
  have hl : ∀ c : ByteArray, c.data.toList.length = c.size := fun c => by rw [Array.length_toList, ByteArray.size_data]
  obtain ⟨h3, h4⟩ := List.append_inj h2 (by rw [hl, hl]; omega)
  exact ⟨ByteArray.ext (Array.toList_inj.1 h3), h4⟩
end Go.Proofs.Ytjaoiaknglnomaa
