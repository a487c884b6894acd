/-
  Plain laws of the disk: what was synced stays the beginning of what a file has for sure, whatever call comes but Spoil and a Put of that file. No condition beyond those that each theorem states.
-/
import Derived.Test.YtjaoiaknglnomaaDo11
set_option linter.unusedVariables false
set_option linter.unusedSimpArgs false
namespace Go.Proofs.Ytjaoiaknglnomaa
open Go.RowKit

/-- K is the beginning of what a file has for sure, and that the beginning of what it has. -/
def Kept (K : List UInt8) (f : FileS) : Prop := f.put = false ∧ K <+: f.sure.data.toList ∧ f.sure.data.toList <+: f.now.data.toList

theorem size_data (s : ByteArray) : s.data.toList.length = s.size := by rw [Array.length_toList, ByteArray.size_data]
theorem data_append (a b : ByteArray) : (a ++ b).data.toList = a.data.toList ++ b.data.toList := by
  rw [ByteArray.data_append, Array.toList_append]
theorem data_extract (s : ByteArray) (i j : Nat) : (s.extract i j).data.toList = (s.data.toList.take j).drop i := by
  rw [ByteArray.data_extract, Array.toList_extract]
  simp [List.extract, List.drop_take]

theorem Kept.after {K : List UInt8} {f : FileS} (h : Kept K f) (c : Int) : K <+: (f.after c).data.toList := by
  obtain ⟨hp, h1, h2⟩ := h
  unfold FileS.after
  split
  · exact h1.trans h2
  · simp only [FileS.left, hp, Bool.false_eq_true, if_false]
    have hl := h2.length_le
    rw [size_data, size_data] at hl
    have hw : f.ways = (f.now.size : Int) - f.sure.size + 1 := by simp [FileS.ways, hp]
    have h0 := Int.emod_nonneg c (b := f.ways) (by omega)
    rw [data_extract, List.drop_zero]
    refine h1.trans ?_
    refine List.prefix_take_iff.2 ⟨h2, ?_⟩
    rw [size_data]; omega
theorem Kept.of_same {K : List UInt8} {s : ByteArray} (h : K <+: s.data.toList) : Kept K ⟨s, s, false⟩ := ⟨rfl, h, List.prefix_rfl⟩

theorem DiskS.get_set_eq (d : DiskS) (i : Nat) (f : FileS) (hi : i < 4) : (d.set i f).get i = f := by
  rcases (by omega : i = 0 ∨ i = 1 ∨ i = 2 ∨ i = 3) with rfl | rfl | rfl | rfl <;> rfl
theorem crashTo_final (D : DiskS) (cs : List Int) (k j : Nat) (hj : j < k) (hk : k ≤ 4) : ∃ c, (crashTo D cs k).1.get j = ⟨(D.get j).after c, (D.get j).after c, false⟩ := by
  induction k with
  | zero => omega
  | succ k ih =>
    rw [crashTo_succ]
    by_cases e : j = k
    · subst e
      exact ⟨(cs.drop (takenTo D j)).headD 0, DiskS.get_set_eq _ _ _ (by omega)⟩
    · rw [DiskS.get_set_ne _ _ _ _ (by omega) (by omega) (fun h => e h.symm)]
      exact ih (by omega) (by omega)

theorem kept_laid {K : List UInt8} {D : DiskS} {i : Nat} (hi : i < 4) (h : Kept K (D.get i)) (j : Nat) (hj : j < 4) (f : FileS) (hf : j = i → Kept K f) : Kept K ((D.laid j f).2.get i) := by
  unfold DiskS.laid
  split
  · by_cases e : j = i
    · subst e
      show Kept K ((D.set j f).get j)
      rw [DiskS.get_set_eq _ _ _ hi]; exact hf rfl
    · show Kept K ((D.set j f).get i)
      rw [DiskS.get_set_ne _ _ _ _ hj hi e]; exact h
  · exact h

theorem kept_act {K : List UInt8} {D : DiskS} {i : Nat} (hi : i < 4) (h : Kept K (D.get i)) (kind F N : Int) (S : ByteArray) (cs : List Int) (hk : kind ≠ 1 ∨ F ≠ i) : Kept K ((actD D kind F N S cs).get i) := by
  have ht : Kept K ((D.tried F).get i) := h
  unfold actD
  split
  · unfold DiskS.appendIt
    split
    · rename_i h0
      have hF := tryRes_zero h0
      refine kept_laid hi ht _ (by omega) _ (fun e => ?_)
      rw [e]
      obtain ⟨hp, h1, h2⟩ := h
      exact ⟨hp, h1, h2.trans (by rw [data_append]; exact List.prefix_append _ _)⟩
    · exact ht
  · split
    · unfold DiskS.putIt
      split
      · rename_i h0
        have hF := tryRes_zero h0
        refine kept_laid hi ht _ (by omega) _ (fun e => ?_)
        rcases hk with hk | hk
        · contradiction
        · omega
      · exact ht
    · split
      · unfold DiskS.syncIt
        split
        · rename_i h0
          have hF := tryRes_zero h0
          by_cases e : F.toNat = i
          · show Kept K (((D.tried F).set F.toNat _).get i)
            rw [e, DiskS.get_set_eq _ _ _ hi]
            exact Kept.of_same (h.2.1.trans h.2.2)
          · show Kept K (((D.tried F).set F.toNat _).get i)
            rw [DiskS.get_set_ne _ _ _ _ (by omega) hi e]
            exact ht
        · exact ht
      · split
        · obtain ⟨c, hc⟩ := crashTo_final D (cs.take 8) 4 i hi (by omega)
          show Kept K ((crashTo D (cs.take 8) 4).1.get i)
          rw [hc]
          exact Kept.of_same (h.after c)
        · split
          · exact h
          · exact h
end Go.Proofs.Ytjaoiaknglnomaa
