/-
  Plain laws of the disk: each call keeps 'no more is occupied than there is room' and what else a disk has. No condition beyond those that each theorem states.
-/
import Derived.Test.YtjaoiaknglnomaaDo11e
set_option linter.unusedVariables false
set_option linter.unusedSimpArgs false
namespace Go.Proofs.Ytjaoiaknglnomaa
open Go.RowKit

/-- A disk of room R, as it may be; a: the least value of its count. -/
structure Good (R a : Int) (D : DiskS) : Prop where
  used : (D.used : Int) ≤ R
  room : D.room = R
  ok : D.ok
  f0 : a ≤ D.fail
  f1 : D.fail ≤ a + 1073741825

theorem get_weight_le (D : DiskS) (i : Nat) : (D.get i).weight ≤ D.used := by
  unfold DiskS.used DiskS.get
  split <;> omega
theorem now_le (f : FileS) : f.now.size ≤ f.weight := by unfold FileS.weight; omega
theorem sure_le (f : FileS) : f.sure.size ≤ f.weight := by unfold FileS.weight; omega
theorem Good.now {R a : Int} {D : DiskS} (h : Good R a D) (i : Nat) : ((D.get i).now.size : Int) ≤ R := by
  have := h.used; have := get_weight_le D i; have := now_le (D.get i); omega
theorem Good.sure {R a : Int} {D : DiskS} (h : Good R a D) (i : Nat) : ((D.get i).sure.size : Int) ≤ R := by
  have := h.used; have := get_weight_le D i; have := sure_le (D.get i); omega
theorem Good.small {R a : Int} {D : DiskS} (h : Good R a D) (hR : R ≤ 1073741824) : D.small := by
  have h' : ∀ i, (D.get i).small := fun i => ⟨by have := h.now i; omega, by have := h.sure i; omega⟩
  exact ⟨h' 0, h' 1, h' 2, h' 3⟩
theorem Good.fine {R : Int} {D : DiskS} (h : Good R 0 D) (hR : R ≤ 1073741824) : D.fine := ⟨h.small hR, by rw [h.room]; omega, h.f0, by have := h.f1; omega⟩

theorem used_set (D : DiskS) (i : Nat) (f : FileS) : (D.set i f).used + (D.get i).weight = D.used + f.weight := by
  unfold DiskS.used DiskS.set DiskS.get
  split <;> simp only <;> omega
theorem get_set (D : DiskS) (i j : Nat) (f : FileS) : (D.set i f).get j = f ∨ (D.set i f).get j = D.get j := by
  match i, j with
  | 0, 0 => exact .inl rfl
  | 0, 1 => exact .inr rfl
  | 0, 2 => exact .inr rfl
  | 0, _ + 3 => exact .inr rfl
  | 1, 0 => exact .inr rfl
  | 1, 1 => exact .inl rfl
  | 1, 2 => exact .inr rfl
  | 1, _ + 3 => exact .inr rfl
  | 2, 0 => exact .inr rfl
  | 2, 1 => exact .inr rfl
  | 2, 2 => exact .inl rfl
  | 2, _ + 3 => exact .inr rfl
  | _ + 3, 0 => exact .inr rfl
  | _ + 3, 1 => exact .inr rfl
  | _ + 3, 2 => exact .inr rfl
  | _ + 3, _ + 3 => exact .inl rfl
theorem ok_set {D : DiskS} (h : D.ok) (i : Nat) {f : FileS} (hf : f.ok) : (D.set i f).ok := fun j => by
  rcases get_set D i j f with e | e <;> rw [e]
  · exact hf
  · exact h j

/-- Another file in a place, that is no heavier. -/
theorem Good.set {R a : Int} {D : DiskS} (h : Good R a D) (i : Nat) {f : FileS} (hf : f.ok) (hw : f.weight ≤ (D.get i).weight) : Good R a (D.set i f) := by
  have hu := used_set D i f
  have hu' := h.used
  exact ⟨by omega, by rw [DiskS.set_room]; exact h.room, ok_set h.ok i hf, by rw [DiskS.set_fail]; exact h.f0, by rw [DiskS.set_fail]; exact h.f1⟩
theorem Good.fail {R a : Int} {D : DiskS} (h : Good R a D) (x : Int) (h0 : a ≤ x) (h1 : x ≤ a + 1073741825) : Good R a { D with fail := x } := ⟨h.used, h.room, h.ok, h0, h1⟩
theorem Good.tried {R : Int} {D : DiskS} (h : Good R 0 D) (f : Int) : Good R 0 (D.tried f) := by
  refine h.fail _ ?_ ?_ <;> simp only [tryRes] <;> have := h.f0 <;> have := h.f1 <;> split <;> (try split) <;> (try split) <;> simp <;> omega
theorem Good.laid {R a : Int} {D : DiskS} (h : Good R a D) (i : Nat) {f : FileS} (hf : f.ok) : Good R a (D.laid i f).2 := by
  unfold DiskS.laid
  split
  · rename_i hfit
    have hu := used_set D i f
    have hu' := h.used
    have hr := h.room
    simp only [DiskS.layFits, decide_eq_true_eq] at hfit
    exact ⟨by show ((D.set i f).used : Int) ≤ R; omega, by rw [DiskS.set_room]; exact h.room, ok_set h.ok i hf, by rw [DiskS.set_fail]; exact h.f0, by rw [DiskS.set_fail]; exact h.f1⟩
  · exact h

theorem Good.append {R : Int} {D : DiskS} (h : Good R 0 D) (F : Int) (s : ByteArray) : Good R 0 (D.appendIt F s).2 := by
  unfold DiskS.appendIt
  split
  · refine (h.tried F).laid _ ?_
    intro hp
    have := h.ok F.toNat hp
    simp only [ByteArray.size_append] at *
    omega
  · exact h.tried F
theorem Good.put {R : Int} {D : DiskS} (h : Good R 0 D) (F : Int) (s : ByteArray) : Good R 0 (D.putIt F s).2 := by
  unfold DiskS.putIt
  split
  · exact (h.tried F).laid _ (fun hp => by cases hp)
  · exact h.tried F
theorem Good.sync {R : Int} {D : DiskS} (h : Good R 0 D) (F : Int) : Good R 0 (D.syncIt F).2 := by
  unfold DiskS.syncIt
  split
  · exact (h.tried F).set _ (fun _ => Nat.le_refl _) (by show max _ _ ≤ (D.get F.toNat).weight; unfold FileS.weight; simp only; omega)
  · exact h.tried F

theorem left_le (f : FileS) (c : Int) (ho : f.ok) : (f.left c).size ≤ f.weight := by
  unfold FileS.left FileS.weight
  split
  · split
    · omega
    · rw [ByteArray.size_extract]; omega
  · rw [ByteArray.size_extract]; omega
theorem Good.crashStep {R a : Int} {D0 : DiskS} {st : DiskS × List Int} (k : Nat) (h : Good R a st.1) (he : st.1.get k = D0.get k) : Good R a (crashStep D0 k st).1 := by
  unfold Go.Proofs.Ytjaoiaknglnomaa.crashStep
  split
  · refine h.set k (fun _ => Nat.le_refl _) ?_
    rw [he]
    show max (D0.get k).now.size (D0.get k).now.size ≤ max (D0.get k).now.size (D0.get k).sure.size
    omega
  · have := left_le (D0.get k) (st.2.headD 0) (by rw [← he]; exact h.ok k)
    refine h.set k (fun _ => Nat.le_refl _) ?_
    rw [he]
    show max ((D0.get k).left (st.2.headD 0)).size ((D0.get k).left (st.2.headD 0)).size ≤ _
    omega
theorem Good.crashTo {R a : Int} {D : DiskS} (h : Good R a { D with fail := 0 }) (cs : List Int) (k : Nat) (hk : k ≤ 4) : Good R a (crashTo D cs k).1 := by
  induction k with
  | zero => exact h
  | succ k ih => exact Good.crashStep k (ih (by omega)) (crashTo_get D cs k k (Nat.le_refl _) (by omega))
theorem Good.crash {R : Int} {D : DiskS} (h : Good R 0 D) (cs : List Int) : Good R 0 (D.crashIt cs) := (h.fail 0 (by omega) (by omega)).crashTo cs 4 (by omega)

theorem Good.refFail {R : Int} {x : DiskS} (h : Good R (-1) x) : Good R (-1) (refFail x) := by
  have := h.f0; have := h.f1
  refine h.fail _ ?_ ?_ <;> split <;> omega
theorem refFile_ok (kind : Int) (f : FileS) (s : ByteArray) (hf : f.ok) : (refFile kind f s).ok := by
  unfold refFile
  split
  · intro hp; have := hf hp; simp only [ByteArray.size_append]; omega
  · split
    · intro hp; cases hp
    · exact fun _ => Nat.le_refl _
theorem Good.refDo {R : Int} {x : DiskS} (h : Good R (-1) x) (kind i : Int) (s : ByteArray) : Good R (-1) (refDo x kind i s).1 := by
  have hu := used_set (Go.Proofs.Ytjaoiaknglnomaa.refFail x) i.toNat (refFile kind ((Go.Proofs.Ytjaoiaknglnomaa.refFail x).get i.toNat) s)
  have hu' := h.refFail.used
  have hr := h.refFail.room
  have ho := h.refFail.ok
  unfold Go.Proofs.Ytjaoiaknglnomaa.refDo
  split
  · exact h
  · split
    · exact h.fail _ (by omega) (by omega)
    · simp only
      split
      · split
        · exact h.refFail
        · rename_i hn
          have hn' : ((Go.Proofs.Ytjaoiaknglnomaa.refFail x).set i.toNat (refFile kind ((Go.Proofs.Ytjaoiaknglnomaa.refFail x).get i.toNat) s)).used ≤ R := by
            rcases Int.lt_or_le R (((Go.Proofs.Ytjaoiaknglnomaa.refFail x).set i.toNat (refFile kind ((Go.Proofs.Ytjaoiaknglnomaa.refFail x).get i.toNat) s)).used : Int) with hh | hh
            · by_cases h2 : (Go.Proofs.Ytjaoiaknglnomaa.refFail x).used < ((Go.Proofs.Ytjaoiaknglnomaa.refFail x).set i.toNat (refFile kind ((Go.Proofs.Ytjaoiaknglnomaa.refFail x).get i.toNat) s)).used
              · exact absurd ⟨by omega, h2⟩ hn
              · omega
            · exact hh
          exact ⟨hn', by rw [DiskS.set_room]; exact hr, ok_set ho _ (refFile_ok _ _ _ (ho _)), by rw [DiskS.set_fail]; exact h.refFail.f0, by rw [DiskS.set_fail]; exact h.refFail.f1⟩
      · rename_i hk
        refine h.refFail.set _ (refFile_ok _ _ _ (ho _)) ?_
        unfold refFile
        rw [if_neg (fun e => hk (.inl e)), if_neg (fun e => hk (.inr e))]
        unfold FileS.weight; simp only; omega
theorem Good.spoils {R a : Int} {D D' : DiskS} (h : Good R a D) (hS : Spoils D D') : Good R a D' := by
  rcases hS with rfl | ⟨i, z, hi, rfl, hz⟩
  · exact h
  · refine h.set i (fun _ => Nat.le_refl _) ?_
    unfold FileS.weight; simp only; omega
end Go.Proofs.Ytjaoiaknglnomaa
