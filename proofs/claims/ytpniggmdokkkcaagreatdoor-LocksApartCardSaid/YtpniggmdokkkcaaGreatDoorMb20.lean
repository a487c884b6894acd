/-
  Nobody overtakes, none waits without need, no two that are held conflict, tokens rise: plain laws of a book's calls; no program in sight.
-/
import Derived.Test.YtpniggmdokkkcaaGreatDoorMb19
set_option linter.unusedVariables false
set_option linter.unusedSimpArgs false
namespace Go.Proofs.YtpniggmdokkkcaaGreatDoor

theorem conf_symm (x y : LkS) : conflB x y = conflB y x := by
  unfold conflB
  rw [Bool.or_comm x.excl y.excl, Bool.or_comm (overT (textL x.path) (textL y.path))]
  congr 1
  exact decide_eq_decide.2 ⟨fun h e => h e.symm, fun h e => h e.symm⟩
theorem conf_self (x : LkS) : conflB x x = false := by simp [conflB]
/-- No two conflict. -/
def NoConf (l : List LkS) : Prop := ∀ a ∈ l, ∀ b ∈ l, conflB a b = false
/-- What waits, waits for something. -/
def Needs (held left : List LkS) : Prop := ∀ i (h : i < left.length), (∃ z ∈ held, conflB left[i] z = true) ∨ ∃ z ∈ left.take i, conflB left[i] z = true
theorem needs_more {held held' left : List LkS} (h : Needs held left) (hs : ∀ y ∈ held, y ∈ held') : Needs held' left :=
  fun i hi => (h i hi).imp (fun ⟨z, hz, hc⟩ => ⟨z, hs z hz, hc⟩) id
theorem needs_app {held left : List LkS} {x : LkS} (h : Needs held left) (hx : (∃ z ∈ held, conflB x z = true) ∨ ∃ z ∈ left, conflB x z = true) : Needs held (left ++ [x]) := by
  intro i hi
  rw [List.length_append, List.length_singleton] at hi
  by_cases hl : i < left.length
  · rw [List.getElem_append_left hl]
    refine (h i hl).imp id (fun ⟨z, hz, hc⟩ => ⟨z, ?_, hc⟩)
    rw [List.take_append_of_le_length (by omega)]
    exact hz
  · have e : i = left.length := by omega
    subst e
    rw [List.getElem_append_right (Nat.le_refl _)]
    simp only [Nat.sub_self, List.getElem_cons_zero]
    refine hx.imp id (fun ⟨z, hz, hc⟩ => ⟨z, ?_, hc⟩)
    rw [List.take_append_of_le_length (Nat.le_refl _), List.take_length]
    exact hz
theorem may_false {held left : List LkS} {x : LkS} (h : ¬ (!(held.any (conflB x)) && !(left.any (conflB x))) = true) : (∃ z ∈ held, conflB x z = true) ∨ ∃ z ∈ left, conflB x z = true := by
  cases h1 : held.any (conflB x) with
  | true => exact .inl (List.any_eq_true.1 h1)
  | false =>
    cases h2 : left.any (conflB x) with
    | true => exact .inr (List.any_eq_true.1 h2)
    | false => rw [h1, h2] at h; exact absurd rfl h
theorem may_true {held left : List LkS} {x : LkS} (h : (!(held.any (conflB x)) && !(left.any (conflB x))) = true) : (∀ z ∈ held, conflB x z = false) ∧ ∀ z ∈ left, conflB x z = false := by
  simp only [Bool.and_eq_true, Bool.not_eq_true', List.any_eq_false, Bool.not_eq_true] at h
  exact h
theorem noconf_ins {held : List LkS} {x y : LkS} (h : NoConf held) (hx : ∀ z ∈ held, conflB x z = false) (hy : ∀ z, conflB y z = conflB x z) : NoConf (insK held y) := by
  intro a ha b hb
  rcases insK_mem.1 ha with ea | ha
  · rcases insK_mem.1 hb with eb | hb
    · rw [ea, eb]; exact conf_self _
    · rw [ea, hy]; exact hx b hb
  · rcases insK_mem.1 hb with eb | hb
    · rw [eb, conf_symm, hy]; exact hx a ha
    · exact h a ha b hb
theorem nodup_inj {l : List LkS} (h : l.Nodup) {i j : Nat} {hi : i < l.length} {hj : j < l.length} (e : l[i] = l[j]) : i = j := by
  rcases Nat.lt_trichotomy i j with hlt | rfl | hlt
  · exact absurd e (List.pairwise_iff_getElem.1 h i j hi hj hlt)
  · rfl
  · exact absurd e.symm (List.pairwise_iff_getElem.1 h j i hj hi hlt)
structure Fair (d : BkS) : Prop where
  noconf : NoConf d.held
  needs : d.last < 18446744073709551615 → Needs d.held d.waits
/-- What a pump's states keep. -/
structure FInv (d : BkS) (t : Nat) (st : BkS × List LkS × List LkS) : Prop where
  last : d.last ≤ st.1.last
  noconf : NoConf st.1.held
  left : ∀ z ∈ st.2.2, z ∈ d.waits.take t
  src : ∀ y ∈ st.1.held, y ∈ d.held ∨ (d.last < y.tok ∧ ∃ (j : Nat) (h : j < d.waits.length), j < t ∧ Key y d.waits[j] ∧ (∀ z, conflB y z = conflB d.waits[j] z) ∧ ∀ i (hi : i < j), d.waits[i] ∈ st.2.2 → conflB d.waits[j] d.waits[i] = false)
  need : st.1.last < 18446744073709551615 → Needs st.1.held st.2.2
theorem pst_fair {d : BkS} (hn : NoConf d.held) (hk : d.waits.Nodup) : ∀ t, t ≤ d.waits.length → FInv d t (pst insK d t)
  | 0, _ => ⟨Int.le_refl _, hn, by simp [pst], fun y hy => .inl hy, fun _ => fun i hi => by simp [pst] at hi⟩
  | t + 1, ht => by
    have ih := pst_fair hn hk t (by omega)
    rw [pst_succ insK d t (by omega)]
    have hw : d.waits[t]'(by omega) = d.waits[t] := rfl
    have htk : d.waits.take (t + 1) = d.waits.take t ++ [d.waits[t]] := List.take_succ_eq_append_getElem (by omega)
    have hnot : ∀ i (hi : i < t), d.waits[i] ≠ d.waits[t] := fun i hi e => by
      have := nodup_inj hk e
      omega
    have hlt : t < d.waits.length := by omega
    obtain ⟨x, hx⟩ : ∃ x, d.waits[t]'hlt = x := ⟨_, rfl⟩
    rw [hx]
    rw [hx] at htk
    have hnx : ∀ i (hi : i < t), d.waits[i] ≠ x := fun i hi => hx ▸ hnot i hi
    generalize pst insK d t = st at *
    obtain ⟨b, out, left⟩ := st
    obtain ⟨i1, i2, i3, i4, i5⟩ := ih
    simp only at i1 i2 i3 i4 i5
    unfold pstep
    split
    · rename_i hc
      have hm := may_true hc.2
      refine ⟨by simp only; omega, noconf_ins i2 hm.1 (fun z => rfl), fun z hz => ?_, fun y hy => ?_, fun hl => ?_⟩
      · rw [htk]; exact List.mem_append_left _ (i3 z hz)
      · rcases insK_mem.1 hy with rfl | hy
        · refine .inr ⟨?_, t, hlt, by omega, ?_, ?_, fun i hi hz => ?_⟩
          · show d.last < b.last + 1
            omega
          · rw [hx]; exact ⟨rfl, rfl⟩
          · rw [hx]; exact fun z => rfl
          · rw [hx]; exact hm.2 _ hz
        · rcases i4 y hy with h | ⟨h1, j, hj, hjt, h2, h3, h4⟩
          · exact .inl h
          · exact .inr ⟨h1, j, hj, by omega, h2, h3, h4⟩
      · simp only at hl
        exact needs_more (i5 (by omega)) (fun y hy => insK_mem.2 (.inr hy))
    · rename_i hc
      refine ⟨i1, i2, fun z hz => ?_, fun y hy => ?_, fun hl => ?_⟩
      · rw [htk]
        rcases List.mem_append.1 hz with hz | hz
        · exact List.mem_append_left _ (i3 z hz)
        · exact List.mem_append_right _ hz
      · rcases i4 y hy with h | ⟨h1, j, hj, hjt, h2, h3, h4⟩
        · exact .inl h
        · refine .inr ⟨h1, j, hj, by omega, h2, h3, fun i hi hz => ?_⟩
          rcases List.mem_append.1 hz with hz | hz
          · exact h4 i hi hz
          · exact absurd (List.mem_singleton.1 hz) (hnx i (by omega))
      · simp only at hl
        exact needs_app (i5 hl) (may_false (fun hm => hc ⟨hl, hm⟩))
theorem waits_nodup {d x : BkS} (h : Rel d x) : d.waits.Nodup := by
  rw [h.waits]
  have := (List.pairwise_append.1 h.keys).2.1
  exact this.imp (fun hk e => hk ⟨by rw [e], by rw [e]⟩)
/-- What a call does to a book. -/
structure Moves (d d' : BkS) : Prop where
  fresh : ∀ y ∈ d'.held, (findB d ⟨y.ses, y.path, false, 0⟩).2 = 0 ∨ d.last < y.tok
  order : ∀ y ∈ d'.held, (findB d ⟨y.ses, y.path, false, 0⟩).2 ≠ 0 → ∀ k (h : k < d.waits.length), ((findB d ⟨y.ses, y.path, false, 0⟩).2 < 0 ∨ (k : Int) < (findB d ⟨y.ses, y.path, false, 0⟩).2 - 1) → 0 < (findB d' ⟨d.waits[k].ses, d.waits[k].path, false, 0⟩).2 → conflB y d.waits[k] = false
  fair : Fair d'
theorem moves_same {d x : BkS} (h : Rel d x) (hf : Fair d) : Moves d d :=
  ⟨fun y hy => .inl (by rw [find_held h hy]), fun y hy hn => absurd (by rw [find_held h hy]) hn, hf⟩
theorem acq_moves {d x : BkS} (h : Rel d x) (hf : Fair d) (y : LkS) (wait : Bool) : Moves d (acqP insK d y wait).1 := by
  have hs := moves_same h hf
  unfold acqP
  split
  · split <;> exact hs
  · split
    · exact hs
    · split
      · rename_i hm
        have hm := may_true hm
        split
        · exact hs
        · refine ⟨fun z hz => ?_, fun z hz hn k hk hkn hst => ?_, ⟨noconf_ins hf.noconf hm.1 (fun z => rfl), fun hl => ?_⟩⟩
          · rcases insK_mem.1 hz with rfl | hz
            · refine .inr ?_
              show d.last < d.last + 1
              omega
            · exact hs.fresh z hz
          · rcases insK_mem.1 hz with rfl | hz
            · exact hm.2 _ (List.getElem_mem hk)
            · exact absurd (by rw [find_held h hz]) hn
          · simp only at hl
            exact needs_more (hf.needs (by omega)) (fun y hy => insK_mem.2 (.inr hy))
      · rename_i hm
        split
        · exact hs
        · split
          · exact hs
          · refine ⟨hs.fresh, fun z hz hn => absurd (by rw [find_held h hz]) hn, ⟨hf.noconf, fun hl => ?_⟩⟩
            exact needs_app (hf.needs hl) (may_false hm)
/-- Where a session's request for a path still waits, it stands among what waits. -/
theorem find_pos {d : BkS} {s : Int} {p : List (List UInt8)} (h : 0 < (findB d ⟨s, p, false, 0⟩).2) : ∃ z ∈ d.waits, sameB ⟨s, p, false, 0⟩ z = true := by
  revert h
  unfold findB
  rcases idxP_cases (sameB ⟨s, p, false, 0⟩) d.held with ⟨h1, h2⟩ | ⟨t, ht, h1, h2, h3⟩
  · rcases idxP_cases (sameB ⟨s, p, false, 0⟩) d.waits with ⟨g1, g2⟩ | ⟨t, ht, g1, g2, g3⟩
    · rw [h1, g1, if_pos (by decide), if_pos (by decide)]
      intro h
      exact absurd h (by decide)
    · intro _
      exact ⟨_, List.getElem_mem ht, g2⟩
  · rw [h1, if_neg (by omega)]
    intro h
    simp only at h
    omega
theorem pump_moves {d x : BkS} (h : Rel d x) (hf : Fair d) (p : LkS → Bool) : Moves d (pumpP insK (dropB p d)).1 := by
  have hnd := waits_nodup h
  have hsub : ∀ z ∈ (dropB p d).waits, z ∈ d.waits := fun z hz => (List.mem_filter.1 hz).1
  have hne : (dropB p d).waits.Nodup := List.Pairwise.filter _ hnd
  have hi := pst_fair (d := dropB p d) (fun a ha b hb => hf.noconf a (List.mem_filter.1 ha).1 b (List.mem_filter.1 hb).1) hne _ (Nat.le_refl _)
  have h6 : ∀ z ∈ d.waits, Six z.path := fun z hz => h.six z (List.mem_append_right _ (h.waits ▸ hz))
  have huq : ∀ z ∈ d.waits, ∀ u ∈ d.waits, Key z u → z = u := by
    intro z hz u hu hk
    have hp := (List.pairwise_append.1 h.keys).2.1
    rw [← h.waits] at hp
    obtain ⟨i, hi, rfl⟩ := List.getElem_of_mem hz
    obtain ⟨j, hj, rfl⟩ := List.getElem_of_mem hu
    rcases Nat.lt_trichotomy i j with hlt | rfl | hlt
    · exact absurd hk (List.pairwise_iff_getElem.1 hp i j hi hj hlt)
    · rfl
    · exact absurd ⟨hk.1.symm, hk.2.symm⟩ (List.pairwise_iff_getElem.1 hp j i hj hi hlt)
  have hleft : ∀ z ∈ (pst insK (dropB p d) (dropB p d).waits.length).2.2, z ∈ (dropB p d).waits := fun z hz => by
    have := hi.left z hz
    rwa [List.take_length] at this
  have hsrc := hi.src
  refine ⟨fun y hy => ?_, fun y hy hn k hk hkn hst => ?_, ⟨hi.noconf, hi.need⟩⟩
  · rcases hsrc y hy with h1 | ⟨h1, -⟩
    · exact .inl (by rw [find_held h (List.mem_filter.1 h1).1])
    · exact .inr h1
  · rcases hsrc y hy with h1 | ⟨h1, j, hj, -, h2, h3, h4⟩
    · exact absurd (by rw [find_held h (List.mem_filter.1 h1).1]) hn
    · have hm : (dropB p d).waits[j] ∈ d.waits := hsub _ (List.getElem_mem hj)
      obtain ⟨j', hj', hjx⟩ := List.getElem_of_mem hm
      have hfn : (findB d ⟨y.ses, y.path, false, 0⟩).2 = (j' : Int) + 1 := by
        rw [h2.1, h2.2, ← hjx, find_waits h j' hj']
      rw [hfn] at hkn
      have hkj : k < j' := by omega
      obtain ⟨z', hz', hs⟩ := find_pos hst
      have hz2 : z' ∈ d.waits := hsub _ (hleft z' hz')
      have hkm : d.waits[k] ∈ d.waits := List.getElem_mem hk
      have hkey := (key_ne (x := ⟨d.waits[k].ses, d.waits[k].path, false, 0⟩) (h6 d.waits[k] hkm) (h6 _ hz2)).1 hs
      have hzk : d.waits[k] = z' := huq _ hkm _ hz2 hkey
      -- the order of what stays
      have hpw : d.waits.Pairwise (fun u v => ∀ (i j : Nat) (hi : i < (dropB p d).waits.length) (hj : j < (dropB p d).waits.length), (dropB p d).waits[i] = u → (dropB p d).waits[j] = v → i < j) := by
        have h0 : (dropB p d).waits.Pairwise (fun u v => ∀ (i j : Nat) (hi : i < (dropB p d).waits.length) (hj : j < (dropB p d).waits.length), (dropB p d).waits[i] = u → (dropB p d).waits[j] = v → i < j) := by
          rw [List.pairwise_iff_getElem]
          intro a b ha hb hab i j hi hj e1 e2
          have q1 := nodup_inj hne e1
          have q2 := nodup_inj hne e2
          omega
        have h1 := List.pairwise_filter.1 h0
        refine h1.imp ?_
        intro u v huv i j hi hj e1 e2
        refine huv ?_ ?_ i j hi hj e1 e2
        · have := (List.mem_filter.1 (e1 ▸ List.getElem_mem hi : u ∈ (dropB p d).waits)).2
          exact this
        · have := (List.mem_filter.1 (e2 ▸ List.getElem_mem hj : v ∈ (dropB p d).waits)).2
          exact this
      have hzl : d.waits[k] ∈ (dropB p d).waits := by rw [hzk]; exact hleft z' hz'
      obtain ⟨i, hi', hix⟩ := List.getElem_of_mem hzl
      have hij : i < j := List.pairwise_iff_getElem.1 hpw k j' hk hj' hkj i j hi' hj hix hjx.symm
      rw [h3]
      have h5 := h4 i hij (by rw [hix, hzk]; exact hz')
      rw [hix] at h5
      exact h5
theorem drop_same {p : LkS → Bool} {d : BkS} (h : (d.held.length : Int) + d.waits.length - (dropB p d).held.length - (dropB p d).waits.length = 0) : dropB p d = d := by
  have h1 := List.length_filter_le (fun x => !p x) d.held
  have h2 := List.length_filter_le (fun x => !p x) d.waits
  have e1 : (dropB p d).held = d.held := List.Sublist.eq_of_length List.filter_sublist (by
    show (d.held.filter (fun x => !p x)).length = _
    change (d.held.length : Int) + d.waits.length - (d.held.filter (fun x => !p x)).length - (d.waits.filter (fun x => !p x)).length = 0 at h
    omega)
  have e2 : (dropB p d).waits = d.waits := List.Sublist.eq_of_length List.filter_sublist (by
    show (d.waits.filter (fun x => !p x)).length = _
    change (d.held.length : Int) + d.waits.length - (d.held.filter (fun x => !p x)).length - (d.waits.filter (fun x => !p x)).length = 0 at h
    omega)
  cases d
  simp only [dropB] at e1 e2 ⊢
  rw [e1, e2]
theorem rel_moves {d x : BkS} (h : Rel d x) (hf : Fair d) (s : Int) (p : List (List UInt8)) : Moves d (relP insK d s p).1 := by
  unfold relP
  split
  · rename_i h0
    rw [drop_same h0]
    exact moves_same h hf
  · exact pump_moves h hf _
theorem drp_moves {d x : BkS} (h : Rel d x) (hf : Fair d) (s : Int) : Moves d (drpP insK d s).1 := pump_moves h hf _
/-- What a call of the statements' do makes of a book. -/
def CallOf (d d' : BkS) : Prop := (∃ (y : LkS) (wait : Bool), Six y.path ∧ (1 ≤ y.ses ∧ y.ses ≤ 9) ∧ d' = (acqP insK d y wait).1) ∨ (∃ s p, d' = (relP insK d s p).1) ∨ (∃ s, d' = (drpP insK d s).1) ∨ d' = d
theorem call_moves {d x d' : BkS} (h : Rel d x) (hf : Fair d) (hc : CallOf d d') : Moves d d' := by
  rcases hc with ⟨y, wait, -, -, rfl⟩ | ⟨s, p, rfl⟩ | ⟨s, rfl⟩ | rfl
  · exact acq_moves h hf y wait
  · exact rel_moves h hf s p
  · exact drp_moves h hf s
  · exact moves_same h hf
theorem find_rng (d : BkS) (key : LkS) : -1 ≤ (findB d key).2 ∧ (findB d key).2 ≤ d.waits.length := by
  unfold findB
  rcases idxP_cases (sameB key) d.held with ⟨h1, h2⟩ | ⟨t, ht, h1, h2, h3⟩
  · rcases idxP_cases (sameB key) d.waits with ⟨g1, g2⟩ | ⟨t, ht, g1, g2, g3⟩
    · rw [h1, g1, if_pos (by decide), if_pos (by decide)]
      simp only
      omega
    · rw [h1, g1, if_pos (by decide), if_neg (by omega)]
      simp only
      omega
  · rw [h1, if_neg (by omega)]
    simp only
    omega
theorem fair_nil (last : Int) : Fair ⟨[], [], last⟩ := ⟨fun a ha => by simp at ha, fun _ i hi => by simp at hi⟩
/-- None waits without need. -/
theorem needs_no {held waits : List LkS} (h : Needs held waits) (u : Nat) (hu : u < waits.length) : (!(held.any (conflB waits[u])) && !((waits.take u).any (conflB waits[u]))) = false := by
  rcases h u hu with ⟨z, hz, hc⟩ | ⟨z, hz, hc⟩
  · rw [show held.any (conflB waits[u]) = true from List.any_eq_true.2 ⟨z, hz, hc⟩]; rfl
  · rw [show (waits.take u).any (conflB waits[u]) = true from List.any_eq_true.2 ⟨z, hz, hc⟩]; simp
end Go.Proofs.YtpniggmdokkkcaaGreatDoor
