/-
  A book in order and the document's book in the order of the grants: one relation, kept by pump; what is found and counted is alike. Plain laws; no program in sight.
-/
import Derived.Test.YtpniggmdokkkcaaGreatDoorMb11
import Derived.Test.YtpniggmdokkkcaaGreatDoorMb12
import Derived.Test.YtpniggmdokkkcaaGreatDoorMb17
import Derived.Test.YtpniggmdokkkcaaGreatDoorMb13
set_option linter.unusedVariables false
set_option linter.unusedSimpArgs false
namespace Go.Proofs.YtpniggmdokkkcaaGreatDoor

/-- The same session's, of the same path. -/
def Key (a b : LkS) : Prop := a.ses = b.ses ∧ a.path = b.path
structure Rel (d x : BkS) : Prop where
  perm : d.held.Perm x.held
  waits : d.waits = x.waits
  last : d.last = x.last
  sorted : SortedK d.held
  keys : (x.held ++ x.waits).Pairwise fun a b => ¬ Key a b
  six : ∀ y ∈ x.held ++ x.waits, Six y.path
theorem any_perm {l m : List LkS} (h : l.Perm m) (p : LkS → Bool) : l.any p = m.any p := by
  rw [Bool.eq_iff_iff, List.any_eq_true, List.any_eq_true]
  exact ⟨fun ⟨x, hx, hp⟩ => ⟨x, h.mem_iff.1 hx, hp⟩, fun ⟨x, hx, hp⟩ => ⟨x, h.mem_iff.2 hx, hp⟩⟩
theorem count_perm {l m : List LkS} (h : l.Perm m) (s : Int) : countK s l = countK s m := (h.filter _).length_eq
/-- What a pump's states have in common. -/
structure PRel (a b : BkS × List LkS × List LkS) : Prop where
  perm : a.1.held.Perm b.1.held
  last : a.1.last = b.1.last
  out : a.2.1 = b.2.1
  left : a.2.2 = b.2.2
theorem pst_rel {d x : BkS} (h : Rel d x) : ∀ t, t ≤ d.waits.length → PRel (pst insK d t) (pst insE x t)
  | 0, _ => ⟨h.perm, h.last, rfl, rfl⟩
  | t + 1, ht => by
    have ih := pst_rel h t (by omega)
    have hx : t < x.waits.length := by rw [← h.waits]; omega
    rw [pst_succ insK d t (by omega), pst_succ insE x t hx]
    have hw : d.waits[t]'(by omega) = x.waits[t] := by simp only [h.waits]
    rw [hw]
    generalize x.waits[t] = y at *
    generalize pst insK d t = a at *
    generalize pst insE x t = b at *
    obtain ⟨a1, a2, a3⟩ := a
    obtain ⟨b1, b2, b3⟩ := b
    obtain ⟨hp, hl, ho, hf⟩ := ih
    simp only at hp hl ho hf
    subst ho; subst hf
    have hc : (a1.last < 18446744073709551615 ∧ (!(a1.held.any (conflB y)) && !(a3.any (conflB y))) = true) ↔ (b1.last < 18446744073709551615 ∧ (!(b1.held.any (conflB y)) && !(a3.any (conflB y))) = true) := by
      rw [any_perm hp, hl]
    unfold pstep
    by_cases hq : a1.last < 18446744073709551615 ∧ (!(a1.held.any (conflB y)) && !(a3.any (conflB y))) = true
    · rw [if_pos hq, if_pos (hc.1 hq)]
      have ht : tokd a1 y = tokd b1 y := by unfold tokd; rw [hl]
      refine ⟨?_, by simp only; rw [hl], by simp only; rw [ht], rfl⟩
      simp only
      rw [ht]
      exact (insK_perm _ _).trans (hp.append_right _)
    · rw [if_neg hq, if_neg (fun h => hq (hc.2 h))]
      exact ⟨hp, hl, rfl, rfl⟩
theorem key_ne {x y : LkS} (hx : Six x.path) (hy : Six y.path) : sameB x y = true ↔ Key x y := by
  rw [same_of hx hy, Bool.and_eq_true, decide_eq_true_iff, decide_eq_true_iff]
  rfl
/-- What is found by its key, wherever it stands. -/
theorem idx_found {l : List LkS} {p : LkS → Bool} {y : LkS} (hy : y ∈ l) (hp : p y = true) (hu : ∀ z ∈ l, p z = true → z = y) : ∃ t : Nat, idxP p l = t ∧ l.getD t zeroK = y := by
  rcases idxP_cases p l with ⟨_, h2⟩ | ⟨t, h, h1, h2, h3⟩
  · rw [h2 y hy] at hp; cases hp
  · refine ⟨t, h1, ?_⟩
    rw [List.getD_eq_getElem?_getD, List.getElem?_eq_getElem h]
    exact hu _ (List.getElem_mem h) h2
theorem find_rel {d x : BkS} (h : Rel d x) (key : LkS) (hk : Six key.path) : findB d key = findB x key := by
  unfold findB
  rw [h.waits]
  rcases idxP_cases (sameB key) x.held with ⟨h1, h2⟩ | ⟨t, ht, h1, h2, h3⟩
  · have hd : idxP (sameB key) d.held = -1 := idxP_miss _ _ (fun y hy => h2 y (h.perm.mem_iff.1 hy))
    rw [h1, hd]
    rfl
  · have hmem : x.held[t] ∈ x.held := List.getElem_mem ht
    have huniq : ∀ z ∈ x.held, sameB key z = true → z = x.held[t] := by
      intro z hz hp
      obtain ⟨i, hi, rfl⟩ := List.getElem_of_mem hz
      have hki := (key_ne hk (h.six _ (List.mem_append_left _ hz))).1 hp
      have hkt := (key_ne hk (h.six _ (List.mem_append_left _ hmem))).1 h2
      have hpw := (List.pairwise_append.1 h.keys).1
      rcases Nat.lt_trichotomy i t with hlt | rfl | hlt
      · exact absurd ⟨hki.1.symm.trans hkt.1, hki.2.symm.trans hkt.2⟩ (List.pairwise_iff_getElem.1 hpw i t hi ht hlt)
      · rfl
      · exact absurd ⟨hkt.1.symm.trans hki.1, hkt.2.symm.trans hki.2⟩ (List.pairwise_iff_getElem.1 hpw t i ht hi hlt)
    obtain ⟨u, hu, hg⟩ := idx_found (p := sameB key) (h.perm.mem_iff.2 hmem) h2 (fun z hz hp => huniq z (h.perm.mem_iff.1 hz) hp)
    rw [h1, hu, if_neg (by omega), if_neg (by omega)]
    simp only [Int.toNat_natCast, Prod.mk.injEq, and_true]
    rw [hg, List.getD_eq_getElem?_getD, List.getElem?_eq_getElem ht]
    rfl
end Go.Proofs.YtpniggmdokkkcaaGreatDoor

/-
  Acquire keeps the relation of a book in order and the document's book, and both answer alike. Plain laws; no program in sight.
-/
set_option linter.unusedVariables false
set_option linter.unusedSimpArgs false
namespace Go.Proofs.YtpniggmdokkkcaaGreatDoor

def kl (l : List LkS) : List (Int × List (List UInt8)) := l.map fun a => (a.ses, a.path)
theorem keys_iff (l : List LkS) : (l.Pairwise fun a b => ¬ Key a b) ↔ (kl l).Nodup := by
  unfold kl List.Nodup
  rw [List.pairwise_map]
  constructor
  · intro h
    exact h.imp (fun hk e => hk (by simp only [Prod.mk.injEq] at e; exact e))
  · intro h
    exact h.imp (fun hk e => hk (by simp only [Prod.mk.injEq]; exact e))
theorem kl_app (l m : List LkS) : kl (l ++ m) = kl l ++ kl m := by simp [kl]
/-- A lock that is not found stands nowhere. -/
theorem not_found {x : BkS} {key : LkS} (h : (findB x key).2 < 0) : (∀ y ∈ x.held, sameB key y = false) ∧ (∀ y ∈ x.waits, sameB key y = false) := by
  unfold findB at h
  rcases idxP_cases (sameB key) x.held with ⟨h1, h2⟩ | ⟨t, ht, h1, h2, h3⟩
  · rcases idxP_cases (sameB key) x.waits with ⟨g1, g2⟩ | ⟨t, ht, g1, g2, g3⟩
    · exact ⟨h2, g2⟩
    · rw [h1, g1, if_pos (by decide), if_neg (by omega)] at h
      simp only at h
      omega
  · rw [h1, if_neg (by omega)] at h
    simp only at h
    omega
theorem rel_new {d x : BkS} (h : Rel d x) {y : LkS} (hy : Six y.path) (hn : (findB x ⟨y.ses, y.path, false, 0⟩).2 < 0) : (y.ses, y.path) ∉ kl (x.held ++ x.waits) := by
  intro hm
  obtain ⟨z, hz, e⟩ := List.mem_map.1 hm
  simp only [Prod.mk.injEq] at e
  have hnf := not_found hn
  have hs : sameB ⟨y.ses, y.path, false, 0⟩ z = true := (key_ne (x := ⟨y.ses, y.path, false, 0⟩) hy (h.six z hz)).2 ⟨e.1.symm, e.2.symm⟩
  rcases List.mem_append.1 hz with h1 | h1
  · rw [hnf.1 z h1] at hs; cases hs
  · rw [hnf.2 z h1] at hs; cases hs
theorem rel_grant {d x : BkS} (h : Rel d x) {y : LkS} (hy : Six y.path) (hn : (findB x ⟨y.ses, y.path, false, 0⟩).2 < 0) :
    Rel { d with held := insK d.held (tokd d y), last := d.last + 1 } { x with held := insE x.held (tokd x y), last := x.last + 1 } := by
  have ht : tokd d y = tokd x y := by unfold tokd; rw [h.last]
  refine ⟨?_, h.waits, by simp only; rw [h.last], insK_sorted h.sorted _, ?_, ?_⟩
  · simp only
    rw [ht]
    exact (insK_perm _ _).trans (h.perm.append_right _)
  · rw [keys_iff]
    have hk := (keys_iff _).1 h.keys
    have hp : (kl ((x.held ++ [tokd x y]) ++ x.waits)).Perm ((y.ses, y.path) :: kl (x.held ++ x.waits)) := by
      simp only [kl_app, List.append_assoc]
      have e : kl [tokd x y] = [(y.ses, y.path)] := rfl
      rw [e]
      exact List.perm_middle
    exact hp.nodup_iff.2 (List.nodup_cons.2 ⟨rel_new h hy hn, hk⟩)
  · intro z hz
    rcases List.mem_append.1 hz with hz | hz
    · rcases List.mem_append.1 hz with hz | hz
      · exact h.six z (List.mem_append_left _ hz)
      · rw [List.mem_singleton.1 hz]; exact hy
    · exact h.six z (List.mem_append_right _ hz)
theorem rel_wait {d x : BkS} (h : Rel d x) {y : LkS} (hy : Six y.path) (hn : (findB x ⟨y.ses, y.path, false, 0⟩).2 < 0) :
    Rel { d with waits := d.waits ++ [{ y with tok := 0 }] } { x with waits := x.waits ++ [{ y with tok := 0 }] } := by
  refine ⟨h.perm, by simp only; rw [h.waits], h.last, h.sorted, ?_, ?_⟩
  · rw [keys_iff]
    have hk := (keys_iff _).1 h.keys
    have hp : (kl (x.held ++ (x.waits ++ [{ y with tok := 0 }]))).Perm ((y.ses, y.path) :: kl (x.held ++ x.waits)) := by
      rw [← List.append_assoc, kl_app]
      have e : kl [{ y with tok := 0 }] = [(y.ses, y.path)] := rfl
      rw [e]
      exact List.perm_append_singleton _ _
    exact hp.nodup_iff.2 (List.nodup_cons.2 ⟨rel_new h hy hn, hk⟩)
  · intro z hz
    rcases List.mem_append.1 hz with hz | hz
    · exact h.six z (List.mem_append_left _ hz)
    · rcases List.mem_append.1 hz with hz | hz
      · exact h.six z (List.mem_append_right _ hz)
      · rw [List.mem_singleton.1 hz]; exact hy
/-- Acquire: both answer alike, and the relation stays. -/
theorem acq_rel {d x : BkS} (h : Rel d x) (y : LkS) (wait : Bool) (hy : Six y.path) :
    Rel (acqP insK d y wait).1 (acqP insE x y wait).1 ∧ (acqP insK d y wait).2 = (acqP insE x y wait).2 := by
  have hf := find_rel h ⟨y.ses, y.path, false, 0⟩ hy
  have hc : countK y.ses (d.held ++ d.waits) = countK y.ses (x.held ++ x.waits) := by rw [h.waits]; exact count_perm (h.perm.append_right _) _
  have ha := any_perm h.perm (conflB { y with tok := 0 })
  unfold acqP
  rw [hf, hc, ha, h.waits, h.last]
  by_cases h1 : 0 ≤ (findB x ⟨y.ses, y.path, false, 0⟩).2
  · rw [if_pos h1, if_pos h1]
    split
    · exact ⟨h, rfl⟩
    · exact ⟨h, rfl⟩
  · rw [if_neg h1, if_neg h1]
    have hn : (findB x ⟨y.ses, y.path, false, 0⟩).2 < 0 := by omega
    split
    · exact ⟨h, rfl⟩
    · split
      · split
        · exact ⟨h, rfl⟩
        · have hg := rel_grant h hy hn
          rw [h.last, h.waits] at hg
          exact ⟨hg, by unfold tokd; rw [h.last]⟩
      · split
        · exact ⟨h, rfl⟩
        · split
          · exact ⟨h, rfl⟩
          · have hg := rel_wait h hy hn
            rw [h.waits, h.last] at hg
            exact ⟨hg, rfl⟩
end Go.Proofs.YtpniggmdokkkcaaGreatDoor

/-
  Release and Drop keep the relation of a book in order and the document's book, and both answer alike. Plain laws; no program in sight.
-/
set_option linter.unusedVariables false
set_option linter.unusedSimpArgs false
namespace Go.Proofs.YtpniggmdokkkcaaGreatDoor

theorem drop_rel {d x : BkS} (h : Rel d x) (p : LkS → Bool) : Rel (dropB p d) (dropB p x) :=
  ⟨h.perm.filter _, by simp only [dropB]; rw [h.waits], h.last, List.Pairwise.filter _ h.sorted, by
    have e : (dropB p x).held ++ (dropB p x).waits = (x.held ++ x.waits).filter (fun y => !p y) := by simp [dropB, List.filter_append]
    rw [e]
    exact List.Pairwise.filter _ h.keys, fun y hy => by
    have e : (dropB p x).held ++ (dropB p x).waits = (x.held ++ x.waits).filter (fun y => !p y) := by simp [dropB, List.filter_append]
    rw [e] at hy
    exact h.six y (List.mem_filter.1 hy).1⟩
theorem pst_keys (x : BkS) : ∀ t, t ≤ x.waits.length → (kl ((pst insE x t).1.held ++ (pst insE x t).2.2 ++ x.waits.drop t)).Perm (kl (x.held ++ x.waits))
  | 0, _ => by simp [pst]
  | t + 1, ht => by
    have ih := pst_keys x t (by omega)
    rw [pst_succ insE x t (by omega)]
    have hd : x.waits.drop t = x.waits[t] :: x.waits.drop (t + 1) := List.drop_eq_getElem_cons (by omega)
    rw [hd] at ih
    generalize x.waits[t] = y at *
    generalize x.waits.drop (t + 1) = r at *
    generalize pst insE x t = st at *
    obtain ⟨b, out, left⟩ := st
    refine List.Perm.trans ?_ ih
    unfold pstep
    split
    · simp only [kl_app, List.append_assoc]
      have e : kl [tokd b y] = [(y.ses, y.path)] := rfl
      have e2 : kl (y :: r) = (y.ses, y.path) :: kl r := rfl
      rw [e, e2]
      refine List.Perm.append_left _ ?_
      rw [List.singleton_append]
      exact List.perm_middle.symm
    · simp only [kl_app, List.append_assoc]
      have e : kl [y] = [(y.ses, y.path)] := rfl
      have e2 : kl (y :: r) = (y.ses, y.path) :: kl r := rfl
      rw [e, e2]
      rfl
theorem pst_six (x : BkS) (h : ∀ y ∈ x.held ++ x.waits, Six y.path) (y : LkS) (hy : y ∈ (pst insE x x.waits.length).1.held ++ (pst insE x x.waits.length).2.2) : Six y.path := by
  have hk := pst_keys x x.waits.length (Nat.le_refl _)
  rw [List.drop_length, List.append_nil] at hk
  have hm : (y.ses, y.path) ∈ kl (x.held ++ x.waits) := hk.mem_iff.1 (List.mem_map.2 ⟨y, hy, rfl⟩)
  obtain ⟨z, hz, e⟩ := List.mem_map.1 hm
  simp only [Prod.mk.injEq] at e
  rw [← e.2]
  exact h z hz
theorem pump_rel {d x : BkS} (h : Rel d x) (hw : WfB d) : Rel (pumpP insK d).1 (pumpP insE x).1 ∧ (pumpP insK d).2 = (pumpP insE x).2 := by
  have hr := pst_rel h d.waits.length (Nat.le_refl _)
  have hi := pst_inv hw d.waits.length (Nat.le_refl _)
  have hk := pst_keys x x.waits.length (Nat.le_refl _)
  have hs := pst_six x h.six
  rw [List.drop_length, List.append_nil] at hk
  unfold pumpP
  have hn : x.waits.length = d.waits.length := by rw [h.waits]
  rw [hn] at hk hs ⊢
  refine ⟨⟨hr.perm, hr.left, hr.last, hi.sorted, ?_, hs⟩, hr.out⟩
  rw [keys_iff]
  exact hk.nodup_iff.2 ((keys_iff _).1 h.keys)
/-- The document's Release and Drop on plain books. -/
def relE (x : BkS) (s : Int) (p : List (List UInt8)) : BkS × List LkS × Int :=
  if (findB x ⟨s, p, false, 0⟩).2 < 0 then (x, [], 20) else ((pumpP insE (dropB (sameB ⟨s, p, false, 0⟩) x)).1, (pumpP insE (dropB (sameB ⟨s, p, false, 0⟩) x)).2, 0)
theorem filter_all {l : List LkS} {p : LkS → Bool} (h : ∀ y ∈ l, p y = false) : l.filter (fun y => !p y) = l := List.filter_eq_self.2 (fun y hy => by rw [h y hy]; rfl)
theorem filter_some {l : List LkS} {p : LkS → Bool} {y : LkS} (hy : y ∈ l) (h : p y = true) : (l.filter (fun y => !p y)).length < l.length := by
  have := List.length_filter_lt_length_iff_exists (l := l) (p := fun y => !p y)
  exact this.2 ⟨y, hy, by rw [h]; decide⟩
theorem found_some {x : BkS} {key : LkS} (h : ¬ (findB x key).2 < 0) : ∃ y ∈ x.held ++ x.waits, sameB key y = true := by
  unfold findB at h
  rcases idxP_cases (sameB key) x.held with ⟨h1, h2⟩ | ⟨t, ht, h1, h2, h3⟩
  · rcases idxP_cases (sameB key) x.waits with ⟨g1, g2⟩ | ⟨t, ht, g1, g2, g3⟩
    · rw [h1, g1, if_pos (by decide), if_pos (by decide)] at h
      exact absurd (by decide) h
    · exact ⟨_, List.mem_append_right _ (List.getElem_mem ht), g2⟩
  · exact ⟨_, List.mem_append_left _ (List.getElem_mem ht), h2⟩
theorem rel_rel {d x : BkS} (h : Rel d x) (hw : WfB d) (s : Int) (p : List (List UInt8)) (hp : Six p) : Rel (relP insK d s p).1 (relE x s p).1 ∧ (relP insK d s p).2 = (relE x s p).2 := by
  have hf := find_rel h ⟨s, p, false, 0⟩ hp
  unfold relP relE
  have l1 := List.length_filter_le (fun y => !sameB ⟨s, p, false, 0⟩ y) d.held
  have l2 := List.length_filter_le (fun y => !sameB ⟨s, p, false, 0⟩ y) d.waits
  by_cases hn : (findB x ⟨s, p, false, 0⟩).2 < 0
  · rw [← hf] at hn
    have h0 := not_found hn
    have e1 : dropB (sameB ⟨s, p, false, 0⟩) d = d := by
      unfold dropB
      rw [filter_all h0.1, filter_all h0.2]
    rw [hf] at hn
    rw [if_pos hn, e1, if_pos (by omega)]
    exact ⟨h, rfl⟩
  · have h2 := hn
    rw [← hf] at h2
    obtain ⟨y, hy, hs⟩ := found_some h2
    rw [if_neg hn, if_neg (by
      show ¬ ((d.held.length : Int) + d.waits.length - (d.held.filter (fun y => !sameB ⟨s, p, false, 0⟩ y)).length - (d.waits.filter (fun y => !sameB ⟨s, p, false, 0⟩ y)).length = 0)
      rcases List.mem_append.1 hy with hy | hy
      · have := filter_some hy hs; omega
      · have := filter_some hy hs; omega)]
    have hr := pump_rel (drop_rel h (sameB ⟨s, p, false, 0⟩)) (dropB_wf hw)
    exact ⟨hr.1, by simp only; rw [hr.2]⟩
theorem drp_rel {d x : BkS} (h : Rel d x) (hw : WfB d) (s : Int) : Rel (drpP insK d s).1 (drpP insE x s).1 ∧ (drpP insK d s).2 = (drpP insE x s).2 :=
  pump_rel (drop_rel h _) (dropB_wf hw)
end Go.Proofs.YtpniggmdokkkcaaGreatDoor

/-
  The statements' Same and all of layer 22, walked. Conditions: good paths; the library's variables hold what they are laid to hold.
-/
set_option linter.unusedVariables false
set_option linter.unusedSimpArgs false
set_option maxRecDepth 100000
namespace Go.Proofs.YtpniggmdokkkcaaGreatDoor
open Go.RowKit

theorem lk_eq (x y : LkS) : decide (x = y) = (decide (x.path = y.path) && (decide (x.ses = y.ses) && (decide (x.excl = y.excl) && decide (x.tok = y.tok)))) := by
  rw [Bool.eq_iff_iff]
  simp only [Bool.and_eq_true, decide_eq_true_eq]
  constructor
  · rintro rfl; exact ⟨rfl, rfl, rfl, rfl⟩
  · rintro ⟨h1, h2, h3, h4⟩
    cases x; cases y
    simp only at h1 h2 h3 h4
    subst h1; subst h2; subst h3; subst h4
    rfl

set_option maxHeartbeats 4000000 in
theorem sam22_any {C : Nat} (x : LkS) (y : RLk) (w : World) (hD : Door w) (hx : Six x.path) (hy : StrRow C w y.2 y.1.path) :
    Calls Tryz.prog 24 #[x.val, rval y] w fun r w' => r = .returned (.bool (decide (x = y.1))) ∧ Upd [] w w' := by
  rw [lk_eq]
  obtain ⟨⟨s2, p2, x2, t2⟩, v2⟩ := y
  obtain ⟨s1, p1, x1, t1⟩ := x
  simp only at hx hy ⊢
  have HPT := hd (fun W (h : Upd [] w W) => pparts_any (textL p1) W (hD.later h) (by have := hx.size; omega))
  rw [hx.parts] at HPT
  have HY := hd (fun W (hu : Upd [] w W) => (row_strs hy).upd hu)
  obtain ⟨a2, c2, rfl, -⟩ := own_open hy
  have e0 := two_lk2 w #[.int .i64 s1, .string (txt (textL p1)), .bool x1, .int .u64 t1] #[.int .i64 s2, .slice a2 p2.length c2, .bool x2, .int .u64 t2] 42 67
  unfold LkS.val rval
  simp only
  generalize textL p1 = tx at *
  clear hx hy hD
  go_enter Tryz.func24, Tryz.ntmps24
  go_upto_region 1 with fail
  obtain ⟨W, k, j, hk, hj, hW, hu, hb, hb'⟩ := e0
  rw [hW, hk, hj]
  have HU := hd hu
  have HB1 := hd hb
  have HB2 := hd hb'
  have hc := hb.cell
  have hc' := hb'.cell
  clear hW hk hj hu hb hb'
  go_wp2_with fail
  refine (HPT.out W HU.out).mono ?_
  rintro r w1 ⟨v1, rfl, hu1, hv1⟩
  have HV1 := hd hv1
  have HU1 := hd (HU.out.trans hu1)
  have HUV := hd hu1
  obtain ⟨a1, c1, rfl, -⟩ := hv1
  have h1c := (HB1.out.upd hu1 (by simp)).cell
  have h2c := (HB2.out.upd hu1 (by simp)).cell
  have HY1 := hd (HY.out _ HU1.out)
  clear hc hc' hu1
  by_cases hl : p1.length = p2.length
  · have hl' : ((p1.length : Int) != (p2.length : Int)) = false := by simp [hl]
    have HL := hd hl
    clear hl
    go_wp2_with fail
    go_loopw [6, 18] (fun _ c wr => ∃ t : Nat, c = .int .i64 t ∧ t ≤ p1.length ∧ p1.take t = p2.take t ∧ Upd [] w1 wr) (fun _ c _ => p1.length - (intOf c).toNat)
    case atStart => exact ⟨0, rfl, by omega, rfl, Upd.refl _ _⟩
    case round =>
      obtain ⟨t, rfl, ht, heq, hu⟩ := hrel
      have HUW := hd hu
      have HUT := hd (HU1.out.trans hu)
      have HEQ := hd heq
      clear hu heq h1c h2c
      have hbw := (HB1.out.upd (HUV.out.trans HUW.out) (by simp))
      have hbw' := (HB2.out.upd (HUV.out.trans HUW.out) (by simp))
      have g1 := hbw.cell
      have g2 := hbw'.cell
      have HBW2 := hd hbw'
      clear hbw hbw'
      by_cases htn : t < p1.length
      · have htn' : (t : Int) < (p1.length : Int) := by omega
        have hbn : t < p2.length := by have := HL.out; omega
        have hbn' : (t : Int) < (p2.length : Int) := by omega
        obtain ⟨aa, ca, e, q1, q2, q3⟩ := (HV1.out.upd HUW.out)
        simp only [Value.slice.injEq] at e
        obtain ⟨rfl, -, rfl⟩ := e
        obtain ⟨ka, oa, rfl, hka, hca⟩ := q3 (by omega)
        obtain ⟨ab, cb, e, r1, r2, r3⟩ := (HY1.out.upd HUW.out)
        simp only [Value.slice.injEq] at e
        obtain ⟨rfl, -, rfl⟩ := e
        obtain ⟨kb, ob, rfl, hkb, hcb⟩ := r3 (by omega)
        have d0 := hca t htn
        have d1 := hcb t hbn
        have d2 : wr.drew.cell? ⟨ka, oa + t, none⟩ = some (.string (txt p1[t])) := d0
        have d3 : wr.drew.cell? ⟨kb, ob + t, none⟩ = some (.string (txt p2[t])) := d1
        have d4 : ∀ o, wr.drew.cell? ⟨j, o, none⟩ = #[.int .i64 s2, .slice (some ⟨kb, ob, none⟩) p2.length c2, .bool x2, .int .u64 t2][o]? := g2
        have HT := hd (show p1.take (t + 1) = p1.take t ++ [p1[t]] ∧ p2.take (t + 1) = p2.take t ++ [p2[t]] from ⟨List.take_succ_eq_append_getElem htn, List.take_succ_eq_append_getElem hbn⟩)
        have HNE := hd (show p1[t] ≠ p2[t] → p1 ≠ p2 from fun h e => h (by subst e; rfl))
        clear hca hcb q3 r3
        generalize p1[t] = x at *
        generalize p2[t] = y at *
        by_cases hxy : x = y
        · subst hxy
          go_upto_region 7 with fail
          go_region_with fail
          all_goals
            go_wp2_with fail
            go_roundw
            case rel => exact ⟨t + 1, by go_num, by omega, by rw [HT.out.1, HT.out.2, HEQ.out], HUW.out.drew⟩
            case measure => simp [intOf]; omega
        · have HN := hd (HNE.out hxy)
          have hxs : ((txt x).toList == (txt y).toList) = false := by simpa [txt_list] using hxy
          clear hxy
          go_upto_region 7 with fail
          go_region_with fail
          all_goals
            go_wp2_with fail
            go_ret
            rw [decide_eq_false HN.out]
            exact ⟨rfl, HUT.out.drew⟩
      · have HE := hd (show decide (p1 = p2) = true by
          have h := HEQ.out
          rw [List.take_of_length_le (by omega), List.take_of_length_le (by have := HL.out; omega)] at h
          simpa using h)
        have htn' : ¬ (t : Int) < (p1.length : Int) := by omega
        by_cases hs : s1 = s2
        · have hs' : (s1 == s2) = true := by simpa using hs
          by_cases hxx : x1 = x2
          · have hx' : (x1 == x2) = true := by simpa using hxx
            have HS := hd (And.intro hs hxx)
            clear hs hxx
            go_wp2_with fail
            go_ret
            rw [HE.out]
            exact ⟨by rw [decide_eq_true HS.out.1, decide_eq_true HS.out.2]; rfl, HUT.out⟩
          · have hx' : (x1 == x2) = false := by simpa using hxx
            have HS := hd hxx
            clear hs hxx
            go_wp2_with fail
            go_ret
            exact ⟨by rw [decide_eq_false HS.out]; simp, HUT.out⟩
        · have hs' : (s1 == s2) = false := by simpa using hs
          have HS := hd hs
          clear hs
          go_wp2_with fail
          go_ret
          exact ⟨by rw [decide_eq_false HS.out]; simp, HUT.out⟩
  · have hl' : ((p1.length : Int) != (p2.length : Int)) = true := by rw [bne_iff_ne]; omega
    have HDN := hd (show decide (p1 = p2) = false by
      rw [decide_eq_false_iff_not]
      intro e
      exact hl (by rw [e]))
    clear hl
    go_wp2_with fail
    go_ret
    rw [HDN.out]
    exact ⟨rfl, HU1.out⟩
end Go.Proofs.YtpniggmdokkkcaaGreatDoor

/-
  The statements' all of layer 22, walked. Conditions: good paths; the library's variables hold what they are laid to hold.
-/
set_option linter.unusedVariables false
set_option linter.unusedSimpArgs false
set_option maxRecDepth 100000
namespace Go.Proofs.YtpniggmdokkkcaaGreatDoor
open Go.RowKit

theorem fsts_get (l : List RLk) (t : Nat) (h : t < l.length) : (fsts l)[t]'(by simpa [fsts] using h) = l[t].1 := by simp [fsts]
theorem fsts_length (l : List RLk) : (fsts l).length = l.length := by simp [fsts]

set_option maxHeartbeats 4000000 in
theorem all22_any {C : Nat} {vl vm : Value} {l : List LkS} {m : List RLk} (w : World) (hD : Door w) (hl : LksAt w vl l) (hm : RRow C w vm m) (h6 : ∀ x ∈ l, Six x.path) :
    Calls Tryz.prog 26 #[vl, vm] w fun r w' => r = .returned (.bool (decide (l = fsts m))) ∧ Upd [] w w' := by
  have HS := hd (fun (x : LkS) (hx : x ∈ l) (y : RLk) (hy : y ∈ m) W (hu : Upd [] w W) => sam22_any (C := C) x y W (hD.later hu) (h6 x hx) (own_upd (L := []) (hm.path y hy) hu (by simp)))
  have HRV := hd (fun e a c (h : e.2 = .slice a e.1.path.length c) => show rval e = .agg #[.int .i64 e.1.ses, .slice a e.1.path.length c, .bool e.1.excl, .int .u64 e.1.tok] by unfold rval; rw [h])
  have HLK := hd hl
  have HM := hd hm
  obtain ⟨a1, c1, rfl, hc1, hm1, -⟩ := hl
  obtain ⟨a2, c2, rfl, -⟩ := own_open hm.own
  have HFL := hd (fsts_length m)
  have HFG := hd (fsts_get m)
  clear hm hD h6
  go_enter Tryz.func26, Tryz.ntmps26
  by_cases hln : l.length = m.length
  · have hln' : ((l.length : Int) != (m.length : Int)) = false := by simp [hln]
    have HL := hd hln
    clear hln
    go_wp2_with fail
    go_loopw [5, 13] (fun _ c wr => ∃ t : Nat, c = .int .i64 t ∧ t ≤ l.length ∧ l.take t = (fsts m).take t ∧ Upd [] w wr) (fun _ c _ => l.length - (intOf c).toNat)
    case atStart => exact ⟨0, rfl, by omega, rfl, Upd.refl _ _⟩
    case round =>
      obtain ⟨t, rfl, ht, heq, hu⟩ := hrel
      have HU := hd hu
      have HEQ := hd heq
      clear hu heq
      by_cases htn : t < l.length
      · have htn' : (t : Int) < (l.length : Int) := by omega
        have htm : t < m.length := by have := HL.out; omega
        have htm' : (t : Int) < (m.length : Int) := by omega
        have ht0 : (0 : Int) ≤ (t : Int) := by omega
        obtain ⟨g, rfl, hgl, c0, c1', c2', c3⟩ := lks_get HLK.out HU.out t htn
        obtain ⟨g2, qa, qc, rfl, hgl2, hqv, d0, d1, d2, d3⟩ := rk_get HM.out rfl HU.out t htm
        have HX := hd (fun y : Later [] wr => HS.out l[t] (List.getElem_mem _) m[t] (List.getElem_mem _) y.world (HU.out.trans y.upd))
        have HV := hd (HRV.out m[t] qa qc hqv)
        rw [HV.out] at HX
        unfold LkS.val at HX
        have hcl : ∀ (y : Later [] wr) o, y.world.cell? ⟨g, o, none⟩ = wr.cell? ⟨g, o, none⟩ := fun y o => World.cell?_of_block (y.upd.block g hgl (by simp))
        have hcl2 : ∀ (y : Later [] wr) o, y.world.cell? ⟨g2, o, none⟩ = wr.cell? ⟨g2, o, none⟩ := fun y o => World.cell?_of_block (y.upd.block g2 hgl2 (by simp))
        have k0 : ∀ (y : Later [] wr), y.world.cell? ⟨g, t * 4, none⟩ = some (.int .i64 l[t].ses) := fun y => (hcl y _).trans c0
        have k1 : ∀ (y : Later [] wr), y.world.cell? ⟨g, t * 4 + 1, none⟩ = some (.string (txt (textL l[t].path))) := fun y => (hcl y _).trans c1'
        have k2 : ∀ (y : Later [] wr), y.world.cell? ⟨g, t * 4 + 2, none⟩ = some (.bool l[t].excl) := fun y => (hcl y _).trans c2'
        have k3 : ∀ (y : Later [] wr), y.world.cell? ⟨g, t * 4 + 3, none⟩ = some (.int .u64 l[t].tok) := fun y => (hcl y _).trans c3
        have j0 : ∀ (y : Later [] wr), y.world.cell? ⟨g2, t * 4, none⟩ = some (.int .i64 m[t].1.ses) := fun y => (hcl2 y _).trans d0
        have j1 : ∀ (y : Later [] wr), y.world.cell? ⟨g2, t * 4 + 1, none⟩ = some (.slice qa m[t].1.path.length qc) := fun y => (hcl2 y _).trans d1
        have j2 : ∀ (y : Later [] wr), y.world.cell? ⟨g2, t * 4 + 2, none⟩ = some (.bool m[t].1.excl) := fun y => (hcl2 y _).trans d2
        have j3 : ∀ (y : Later [] wr), y.world.cell? ⟨g2, t * 4 + 3, none⟩ = some (.int .u64 m[t].1.tok) := fun y => (hcl2 y _).trans d3
        have HT := hd (show l.take (t + 1) = l.take t ++ [l[t]] ∧ (fsts m).take (t + 1) = (fsts m).take t ++ [m[t].1] from ⟨List.take_succ_eq_append_getElem htn, by rw [List.take_succ_eq_append_getElem (by rw [HFL.out]; exact htm), HFG.out t htm]⟩)
        have HNE := hd (show l[t] ≠ m[t].1 → l ≠ fsts m from fun h e => h (by
          have h2 := HFG.out t htm
          subst e
          exact h2))
        clear c0 c1' c2' c3 d0 d1 d2 d3 hcl hcl2 hqv HV
        generalize l[t] = x at *
        generalize m[t] = y at *
        generalize y.1.path.length = yn at *
        go_upto_region 6 with fail
        refine wp_region_later [] (by kernel_rfl) (by kernel_rfl) ?_
        repeat (go_big_quiet_step (first
          | (go_at_call 24; refine later_call (HX.out _))))
        refine wpQuiet_nil ?_
        intro W9 hu9
        have HU9 := hd (HU.out.trans hu9)
        clear hu9 k0 k1 k2 k3 j0 j1 j2 j3 HX
        by_cases hxy : x = y.1
        · have hdd : decide (x = y.1) = true := decide_eq_true hxy
          have HXY := hd hxy
          rw [hdd]
          clear hxy hdd
          go_wp2_with fail
          go_roundw
          case rel => exact ⟨t + 1, by go_num, by omega, by rw [HT.out.1, HT.out.2, HEQ.out, HXY.out], HU9.out⟩
          case measure => simp [intOf]; omega
        · have hdd : decide (x = y.1) = false := decide_eq_false hxy
          have HN := hd (HNE.out hxy)
          rw [hdd]
          clear hxy hdd
          go_wp2_with fail
          go_ret
          rw [decide_eq_false HN.out]
          exact ⟨rfl, HU9.out⟩
      · have HE := hd (show decide (l = fsts m) = true by
          have h := HEQ.out
          rw [List.take_of_length_le (by omega), List.take_of_length_le (by rw [HFL.out]; have := HL.out; omega)] at h
          simpa using h)
        have htn' : ¬ (t : Int) < (l.length : Int) := by omega
        go_wp2_with fail
        go_ret
        rw [HE.out]
        exact ⟨rfl, HU.out⟩
  · have hln' : ((l.length : Int) != (m.length : Int)) = true := by rw [bne_iff_ne]; omega
    have HDN := hd (show decide (l = fsts m) = false by
      rw [decide_eq_false_iff_not]
      intro e
      exact hln (by rw [e, fsts_length]))
    clear hln
    go_wp2_with fail
    go_ret
    rw [HDN.out]
    exact ⟨rfl, Upd.refl _ _⟩
end Go.Proofs.YtpniggmdokkkcaaGreatDoor

/-
  The statements' clash and at of layer 22, walked. Conditions: the library's variables hold what they are laid to hold.
-/
set_option linter.unusedVariables false
set_option linter.unusedSimpArgs false
set_option maxRecDepth 100000
namespace Go.Proofs.YtpniggmdokkkcaaGreatDoor
open Go.RowKit

set_option maxHeartbeats 1000000 in
theorem clash_any (x y : LkS) (w : World) : Calls Tryz.prog 14 #[x.val, y.val] w fun e w' => e = .returned (.bool (conflB x y)) ∧ Upd [] w w' := by
  obtain ⟨s1, p1, x1, t1⟩ := x
  obtain ⟨s2, p2, x2, t2⟩ := y
  unfold LkS.val conflB
  simp only
  generalize textL p1 = a
  generalize textL p2 = b
  have e0 := two_lk w #[.int .i64 s1, .string (txt a), .bool x1, .int .u64 t1] #[.int .i64 s2, .string (txt b), .bool x2, .int .u64 t2] 42
  have HI := hd (pinline_any a b)
  generalize (overT a b || overT b a) = q at *
  go_enter Tryz.func14, Tryz.ntmps14
  go_upto_region 1 with fail
  obtain ⟨W, k, j, hk, hj, hW, hu, hb, hb'⟩ := e0
  rw [hW, hk, hj]
  have HU := hd hu
  have hc := hb.cell
  have hc' := hb'.cell
  clear hW hk hj hu hb hb'
  by_cases hs : s1 = s2
  · subst hs
    go_wp2_with fail
    go_ret
    exact ⟨by simp, HU.out⟩
  · have hs' : (s1 != s2) = true := by simpa using hs
    have HS := hd hs
    clear hs
    rcases x1 with _ | _
    · rcases x2 with _ | _
      · go_wp2_with fail
        go_ret
        exact ⟨by simp, HU.out⟩
      · go_wp2_with fail
        refine (HI.out _).mono ?_
        rintro e w1 ⟨rfl, hu1⟩
        go_wp2_with fail
        go_ret
        exact ⟨by simp [HS.out], HU.out.trans hu1⟩
    · go_wp2_with fail
      refine (HI.out _).mono ?_
      rintro e w1 ⟨rfl, hu1⟩
      go_wp2_with fail
      go_ret
      exact ⟨by simp [HS.out], HU.out.trans hu1⟩

set_option maxHeartbeats 2000000 in
theorem at22_any (s : List UInt8) (l : List (List UInt8)) (w : World) (hD : Door w) (hs : s.length ≤ 1000) (hl : parse5 s = some l) :
    Calls Tryz.prog 19 #[.string (txt s)] w fun e w' => e = .returned (.agg #[.string (txt (textL l))]) ∧ Upd [] w w' := by
  have HP := hd (fun W (h : Upd [] w W) => pparse_any s W (hD.later h) (by omega))
  rw [hl] at HP
  have e0 := one_lk w #[.string ⟨#[]⟩] 40
  clear hD hl
  go_enter Tryz.func19, Tryz.ntmps19
  go_upto_region 1 with fail
  obtain ⟨W, k, hk, hW, hu, hb⟩ := e0
  rw [hW, hk]
  have HK := hd (show w.heap.size ≤ k by omega)
  have HU := hd hu
  have HB := hd hb
  clear hk hW hu hb
  go_wp2_with fail
  refine (HP.out W HU.out).mono ?_
  rintro r w1 ⟨p, ev, rfl, hu1, hp, hev⟩
  subst hp
  subst hev
  have HU1 := hd (HU.out.trans hu1)
  have hb1 := (HB.out.upd hu1 (by simp)).alloc (.cells #[.string (txt (textL l))] 40)
  have h1c := hb1.cell
  have h1z := hb1.frozen
  have h1l := hb1.lt
  have HB1 := hd hb1
  have HLT := hd (HB.out.upd hu1 (by simp)).lt
  have hne : ¬ (k = w1.heap.size) := by have := HLT.out; omega
  have hne' : ¬ (w1.heap.size = k) := fun e => hne e.symm
  clear hu1 hb1
  go_wp2_with fail
  refine bodyPost_ret (results_up _ rfl _ _ k _ rfl (HB1.out.set 0 (.string (txt (textL l))))) rfl ?_
  exact ⟨rfl, (HU1.out.alloc _).setCell (p := ⟨k, 0, none⟩) (.inr HK.out) _⟩
end Go.Proofs.YtpniggmdokkkcaaGreatDoor
