/-
  A cell on a disk that fails not and has room: what Write leaves, and Open answers. Plain laws; no program in sight.
-/
import Derived.Test.YtjaoiaknglnomaaTwin6
set_option linter.unusedVariables false
set_option linter.unusedSimpArgs false
namespace Go.Proofs.Ytjaoiaknglnomaa

/-- A file that has that, for sure. -/
def sureF (x : List UInt8) : FileS := ⟨txt x, txt x, false⟩
theorem set_set (d : DiskS) (i : Nat) (x y : FileS) : (d.set i x).set i y = d.set i y := by
  match i with
  | 0 => rfl
  | 1 => rfl
  | 2 => rfl
  | n + 3 => rfl
theorem get_set (d : DiskS) (i : Nat) (x : FileS) : (d.set i x).get i = x := by
  match i with
  | 0 => rfl
  | 1 => rfl
  | 2 => rfl
  | n + 3 => rfl
theorem get_set_next (d : DiskS) (i : Nat) (x y : FileS) (hi : i ≤ 2) : ((d.set i x).set (i + 1) y).get i = x := by
  rcases (by omega : i = 0 ∨ i = 1 ∨ i = 2) with rfl | rfl | rfl <;> rfl
theorem used_set (d : DiskS) (i : Nat) (x : FileS) : (d.set i x).used ≤ d.used + x.weight := by
  match i with
  | 0 => simp only [DiskS.set, DiskS.used]; omega
  | 1 => simp only [DiskS.set, DiskS.used]; omega
  | 2 => simp only [DiskS.set, DiskS.used]; omega
  | n + 3 => simp only [DiskS.set, DiskS.used]; omega
theorem weight_sure (x : List UInt8) : (sureF x).weight = x.length := by simp [FileS.weight, sureF]
theorem try_ok (d : DiskS) (f : Int) (hf : 0 ≤ f) (hf4 : f < 4) (h0 : d.fail = 0) : (tryRes d.fail f).1 = 0 ∧ d.tried f = d := by
  have e : tryRes d.fail f = (0, 0) := by unfold tryRes; rw [if_pos ⟨hf, hf4⟩, if_pos h0]
  obtain ⟨f0, f1, f2, f3, r, fl⟩ := d
  simp only at h0
  subst h0
  exact ⟨by rw [e], by unfold DiskS.tried; rw [e]⟩
theorem lay_ok (d : DiskS) (f : Int) (v : Nat) (s : List UInt8) (hf : 0 ≤ f) (hf4 : f < 4) (h0 : d.fail = 0) (hr : ((d.used + (spellL v s).length : Nat) : Int) ≤ d.room) :
    d.layIt f v s = (0, d.set f.toNat (sureF (spellL v s))) := by
  obtain ⟨t1, t2⟩ := try_ok d f hf hf4 h0
  have hfit : d.layFits f.toNat ⟨txt (spellL v s), (d.get f.toNat).sure, true⟩ = true := by
    simp only [DiskS.layFits, FileS.weight, txt_size, decide_eq_true_iff]
    omega
  have hp : d.putIt f (txt (spellL v s)) = (0, d.set f.toNat ⟨txt (spellL v s), (d.get f.toNat).sure, true⟩) := by
    unfold DiskS.putIt
    rw [if_pos t1, t2]
    unfold DiskS.laid
    rw [if_pos hfit]
  have h1 : (d.set f.toNat ⟨txt (spellL v s), (d.get f.toNat).sure, true⟩).fail = 0 := by rw [(set_rest _ _ _).2]; exact h0
  obtain ⟨u1, u2⟩ := try_ok _ f hf hf4 h1
  unfold DiskS.layIt
  rw [hp, if_pos rfl]
  simp only
  unfold DiskS.syncIt
  rw [if_pos u1, u2, get_set, set_set]
  rfl
/-- What a Write leaves. -/
def DiskS.wrote (d : DiskS) (first : Nat) (v : Nat) (s : List UInt8) : DiskS := (d.set first (sureF (spellL v s))).set (first + 1) (sureF (spellL v s))
theorem write_ok (d : DiskS) (first ver : Nat) (s : List UInt8) (hf : first ≤ 2) (hs : s.length ≤ 524288) (h0 : d.fail = 0) (hr : ((d.used + 2 * (spellL (ver + 1) s).length : Nat) : Int) ≤ d.room) :
    d.writeIt first ver s = (0, d.wrote first (ver + 1) s, ver + 1) := by
  have e1 := lay_ok d first (ver + 1) s (by omega) (by omega) h0 (by omega)
  rw [Int.toNat_natCast] at e1
  have hu := used_set d first (sureF (spellL (ver + 1) s))
  rw [weight_sure] at hu
  have hrest := set_rest d first (sureF (spellL (ver + 1) s))
  have e2 := lay_ok (d.set first (sureF (spellL (ver + 1) s))) ((first : Int) + 1) (ver + 1) s (by omega) (by omega) (by rw [hrest.2]; exact h0) (by rw [hrest.1]; omega)
  rw [show ((first : Int) + 1).toNat = first + 1 by omega] at e2
  unfold DiskS.writeIt
  rw [if_neg (by omega), e1]
  simp only
  rw [if_neg (by simp), e2]
  rfl
theorem file_get (d : DiskS) (f : Nat) (hf : f < 4) : d.file f = (d.get f).now.data.toList := by
  unfold DiskS.file DiskS.readIt
  rw [if_pos ⟨by omega, by omega⟩, Int.toNat_natCast]
theorem file_wrote (d : DiskS) (first v : Nat) (s : List UInt8) (hf : first ≤ 2) : (d.wrote first v s).file first = spellL v s ∧ (d.wrote first v s).file ((first : Int) + 1) = spellL v s := by
  constructor
  · rw [file_get _ _ (by omega)]
    unfold DiskS.wrote
    rw [get_set_next _ _ _ _ hf]
    simp [sureF, txt]
  · rw [show ((first : Int) + 1) = ((first + 1 : Nat) : Int) by omega, file_get _ _ (by omega)]
    unfold DiskS.wrote
    rw [get_set]
    simp [sureF, txt]
theorem open_wrote (d : DiskS) (first v : Nat) (s : List UInt8) (hf : first ≤ 2) (hv : v < 18446744073709551616) (hv0 : v ≠ 0) (hs : s.length ≤ 524288) :
    (d.wrote first v s).openIt first = (some v, s, 0, d.wrote first v s) := by
  obtain ⟨h1, h2⟩ := file_wrote d first v s hf
  have hp := parse_spell v s hv hv0 hs
  unfold DiskS.openIt
  rw [h1, h2, hp]
  simp only
  rw [if_neg (by simp), if_neg (by simp [hv0]), if_neg (Nat.lt_irrefl _)]
  simp [DiskS.mendIt]
theorem open_none (d : DiskS) (first : Nat) (h1 : d.file first = []) (h2 : d.file ((first : Int) + 1) = []) : d.openIt first = (some 0, [], 0, d) := by
  unfold DiskS.openIt
  rw [h1, h2]
  simp [parse_none]
end Go.Proofs.Ytjaoiaknglnomaa
