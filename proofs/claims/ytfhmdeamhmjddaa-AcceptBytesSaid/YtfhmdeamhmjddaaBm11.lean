/-
  Numbers as bytes are prefix codes: what is written tells what was written. No condition but that the numbers are of 64 bits.
-/
import Derived.Test.YtfhmdeamhmjddaaBm1
import Derived.Test.YtfhmdeamhmjddaaBm10
import Derived.Test.YtfhmdeamhmjddaaBm7
set_option linter.unusedVariables false
namespace Go.Proofs.Ytfhmdeamhmjddaa

theorem wideOf_inj (x y : Nat) : ∀ k, wideOf x k = wideOf y k → x % 256 ^ k = y % 256 ^ k
  | 0, _ => by simp [Nat.mod_one]
  | k + 1, h => by
    simp only [wideOf, List.cons.injEq] at h
    have ih := wideOf_inj x y k h.2
    have h1 : x / 256 ^ k % 256 = y / 256 ^ k % 256 := by
      have := congrArg UInt8.toNat h.1
      simpa using this
    have e : ∀ z : Nat, z % 256 ^ (k + 1) = z % 256 ^ k + 256 ^ k * (z / 256 ^ k % 256) := fun z => by rw [Nat.pow_succ]; exact Nat.mod_mul
    rw [e x, e y, ih, h1]
theorem headOf_cases (x : Nat) : (x < 252 ∧ headOf x = (UInt8.ofNat x, 0)) ∨ (252 ≤ x ∧ x < 65536 ∧ headOf x = (252, 2)) ∨ (65536 ≤ x ∧ x < 4294967296 ∧ headOf x = (253, 4)) ∨ (4294967296 ≤ x ∧ headOf x = (254, 8)) := by
  unfold headOf
  split
  · exact .inl ⟨by assumption, rfl⟩
  · split
    · exact .inr (.inl ⟨by omega, by assumption, rfl⟩)
    · split
      · exact .inr (.inr (.inl ⟨by omega, by assumption, rfl⟩))
      · exact .inr (.inr (.inr ⟨by omega, rfl⟩))
theorem uBytes_prefix (x y : Nat) (hx : x < 18446744073709551616) (hy : y < 18446744073709551616) (r s : List UInt8) (h : uBytes x ++ r = uBytes y ++ s) : x = y ∧ r = s := by
  have e : ∀ z : Nat, z < 18446744073709551616 → z % 256 ^ (headOf z).2 = z ∨ (headOf z).2 = 0 := fun z hz => by
    unfold headOf
    split
    · exact .inr rfl
    · split
      · exact .inl (Nat.mod_eq_of_lt (by simp only; omega))
      · split
        · exact .inl (Nat.mod_eq_of_lt (by simp only; omega))
        · exact .inl (Nat.mod_eq_of_lt (by simp only; omega))
  simp only [uBytes, List.cons_append, List.cons.injEq] at h
  obtain ⟨h1, h2⟩ := h
  have hc : (headOf x).2 = (headOf y).2 ∧ ((headOf x).2 = 0 → x = y) := by
    have ht := congrArg UInt8.toNat h1
    rcases headOf_cases x with ⟨a1, a2⟩ | ⟨a0, a1, a2⟩ | ⟨a0, a1, a2⟩ | ⟨a0, a2⟩ <;> rcases headOf_cases y with ⟨b1, b2⟩ | ⟨b0, b1, b2⟩ | ⟨b0, b1, b2⟩ | ⟨b0, b2⟩ <;> rw [a2, b2] at ht ⊢ <;> simp at ht ⊢ <;> omega
  rw [hc.1] at h2
  have h3 := List.append_inj h2 (by simp [wideOf_length])
  refine ⟨?_, h3.2⟩
  rcases e x hx with hz | hz
  · rcases e y hy with hw | hw
    · have := wideOf_inj x y _ h3.1
      rw [← hc.1, hz, hc.1, hw] at this
      exact this
    · exact hc.2 (hc.1.trans hw)
  · exact hc.2 hz
theorem nBytes_prefix (x y : Int) (hx : 0 ≤ x ∧ x ≤ 9223372036854775807) (hy : 0 ≤ y ∧ y ≤ 9223372036854775807) (r s : List UInt8) (h : nBytes x ++ r = nBytes y ++ s) : x = y ∧ r = s := by
  obtain ⟨h1, h2⟩ := uBytes_prefix x.toNat y.toNat (by omega) (by omega) r s h
  exact ⟨by omega, h2⟩
theorem sBytes_prefix (a b : ByteArray) (ha : a.size ≤ 9223372036854775807) (hb : b.size ≤ 9223372036854775807) (r s : List UInt8) (h : sBytes a ++ r = sBytes b ++ s) : a = b ∧ r = s := by
  unfold sBytes at h
  rw [List.append_assoc, List.append_assoc] at h
  obtain ⟨h1, h2⟩ := nBytes_prefix a.size b.size (by omega) (by omega) _ _ h
  have hl : ∀ c : ByteArray, c.data.toList.length = c.size := fun c => by rw [Array.length_toList, ByteArray.size_data]
  obtain ⟨h3, h4⟩ := List.append_inj h2 (by rw [hl, hl]; omega)
  exact ⟨ByteArray.ext (Array.toList_inj.1 h3), h4⟩
end Go.Proofs.Ytfhmdeamhmjddaa

/-
  Plain laws of layer 16: what the document's Prepare and Accept do to a list of entries, against what the acceptor does. No program in sight. Conditions: those that each theorem states.
-/
set_option linter.unusedVariables false
set_option linter.unusedSimpArgs false
namespace Go.Proofs.Ytfhmdeamhmjddaa

/-- The entries from a slot on. -/
def fromSlot (n : Int) (e : EntS) : Bool := decide (n ≤ e.slot)
theorem filter_from (l : List EntS) (n : Int) (hs : SortedE l) : l.filter (fromSlot n) = l.drop (aheadOf l n) := by
  have h1 := (aheadOf_spec l n).1
  have h2 := sorted_from l n hs
  have hle := aheadOf_le l n
  generalize aheadOf l n = k at *
  conv => lhs; rw [← List.take_append_drop k l, List.filter_append]
  have e1 : (l.take k).filter (fromSlot n) = [] := by
    rw [List.filter_eq_nil_iff]
    intro e he
    obtain ⟨t, ht, rfl⟩ := List.getElem_of_mem he
    simp only [List.length_take] at ht
    rw [List.getElem_take]
    have := h1 t (by omega) (by omega)
    simp [fromSlot]; omega
  have e2 : (l.drop k).filter (fromSlot n) = l.drop k := by
    rw [List.filter_eq_self]
    intro e he
    obtain ⟨t, ht, rfl⟩ := List.getElem_of_mem he
    simp only [List.length_drop] at ht
    rw [List.getElem_drop]
    have := h2 (k + t) (by omega) (by omega)
    simp [fromSlot]; omega
  rw [e1, e2, List.nil_append]

/-- One round of the document's Accept: the list, is it in, is it a new one. -/
def insStep (x : EntS) (st : List EntS × Bool × Bool) (y : EntS) : List EntS × Bool × Bool :=
  if y.slot = x.slot then (if st.2.1 = true then (st.1, true, false) else (st.1 ++ [x], true, false))
  else if st.2.1 = true then (st.1 ++ [y], true, st.2.2)
  else if x.slot ≤ y.slot then (st.1 ++ [x] ++ [y], true, st.2.2)
  else (st.1 ++ [y], false, st.2.2)

theorem insFold_done (x : EntS) : ∀ (l acc : List EntS) (more : Bool), (∀ e ∈ l, e.slot ≠ x.slot) → l.foldl (insStep x) (acc, true, more) = (acc ++ l, true, more)
  | [], acc, more, _ => by simp
  | y :: r, acc, more, h => by
    have hy := h y (by simp)
    rw [List.foldl_cons, show insStep x (acc, true, more) y = (acc ++ [y], true, more) by simp [insStep, hy], insFold_done x r _ _ (fun e he => h e (by simp [he]))]
    simp
theorem insFold_low (x : EntS) : ∀ (l acc : List EntS), (∀ e ∈ l, e.slot < x.slot) → l.foldl (insStep x) (acc, false, true) = (acc ++ l, false, true)
  | [], acc, _ => by simp
  | y :: r, acc, h => by
    have hy := h y (by simp)
    have h1 : ¬ y.slot = x.slot := by omega
    have h2 : ¬ x.slot ≤ y.slot := by omega
    rw [List.foldl_cons, show insStep x (acc, false, true) y = (acc ++ [y], false, true) by simp [insStep, h1, h2], insFold_low x r _ (fun e he => h e (by simp [he]))]
    simp
theorem insFold_len (x : EntS) : ∀ (l : List EntS) (st : List EntS × Bool × Bool), (l.foldl (insStep x) st).1.length ≤ st.1.length + 2 * l.length
  | [], st => by simp
  | y :: r, st => by
    rw [List.foldl_cons]
    have h := insFold_len x r (insStep x st y)
    have h1 : (insStep x st y).1.length ≤ st.1.length + 2 := by
      unfold insStep; (repeat' split) <;> simp
    simp only [List.length_cons]; omega

theorem insFold_sorted (l : List EntS) (x : EntS) (hs : SortedE l) :
    l.foldl (insStep x) ([], false, true) = if hasSlot l x.slot = true then (l.set (aheadOf l x.slot) x, true, false) else if aheadOf l x.slot < l.length then (l.take (aheadOf l x.slot) ++ x :: l.drop (aheadOf l x.slot), true, true) else (l, false, true) := by
  have h1 := (aheadOf_spec l x.slot).1
  have h2 := sorted_from l x.slot hs
  have hle := aheadOf_le l x.slot
  have h3 := there_at l x.slot hs
  have hns : hasSlot l x.slot = false → ∀ e ∈ l, e.slot ≠ x.slot := fun h e he => by
    simp only [hasSlot, List.any_eq_false, beq_iff_eq] at h
    exact h e he
  generalize aheadOf l x.slot = k at *
  have hlo : ∀ e ∈ l.take k, e.slot < x.slot := fun e he => by
    obtain ⟨t, ht, rfl⟩ := List.getElem_of_mem he
    simp only [List.length_take] at ht
    rw [List.getElem_take]
    exact h1 t (by omega) (by omega)
  by_cases hth : hasSlot l x.slot = true
  · rw [if_pos hth]
    obtain ⟨hi, hsl⟩ := h3 hth
    conv => lhs; rw [← List.take_append_drop k l]
    rw [List.foldl_append, insFold_low x _ _ hlo, List.drop_eq_getElem_cons hi, List.foldl_cons, List.nil_append]
    rw [show insStep x (l.take k, false, true) l[k] = (l.take k ++ [x], true, false) by simp [insStep, hsl]]
    rw [insFold_done x _ _ _ (fun e he => by
      obtain ⟨t, ht, rfl⟩ := List.getElem_of_mem he
      simp only [List.length_drop] at ht
      rw [List.getElem_drop]
      have := List.pairwise_iff_getElem.1 hs.order k (k + 1 + t) hi (by omega) (by omega)
      omega)]
    rw [List.set_eq_take_append_cons_drop, if_pos hi]
    simp
  · rw [if_neg hth]
    have hne := hns (by simpa using hth)
    by_cases hk : k < l.length
    · rw [if_pos hk]
      conv => lhs; rw [← List.take_append_drop k l]
      rw [List.foldl_append, insFold_low x _ _ hlo, List.drop_eq_getElem_cons hk, List.foldl_cons, List.nil_append]
      have hy := h2 k hk (Nat.le_refl _)
      have hy2 := hne l[k] (List.getElem_mem _)
      rw [show insStep x (l.take k, false, true) l[k] = (l.take k ++ [x] ++ [l[k]], true, true) by simp [insStep, hy, hy2]]
      rw [insFold_done x _ _ _ (fun e he => hne e (List.mem_of_mem_drop he))]
      simp
    · rw [if_neg hk]
      obtain rfl : k = l.length := by omega
      rw [List.take_length] at hlo
      rw [insFold_low x _ _ hlo, List.nil_append]

/-- The document's Accept. -/
def AccS.refAccept (d : AccS) (m : MsgS) : AccS × MsgS :=
  if d.low m.bal = true then (d, { kind := 5, bal := d.bal })
  else
    let x : EntS := ⟨m.slot, m.bal, d.kept m.text⟩
    let st := d.list.foldl (insStep x) ([], decide (m.slot ≤ d.base), true)
    let l := if st.2.1 = true then st.1 else st.1 ++ [x]
    if d.base < m.slot ∧ 64 < (d.list.length : Int) + (if st.2.2 = true then 1 else 0) then (d, {})
    else ({ d with bal := m.bal, list := l }, { kind := 4, bal := m.bal, slot := m.slot })

/-- Nothing at or below the base is kept; not more than there may be. -/
structure AccS.above (d : AccS) : Prop where
  up : ∀ e ∈ d.list, d.base < e.slot
  few : d.list.length ≤ 64

theorem getD_in {l : List EntS} {i : Nat} {x : EntS} (h : i < l.length) : l.getD i x = l[i] := by simp [List.getD, List.getElem?_eq_getElem h]
theorem same_eq {a b : EntS} (h : a.same b = true) : a = b := by
  obtain ⟨s, ⟨c, n⟩, t⟩ := a
  obtain ⟨s', ⟨c', n'⟩, t'⟩ := b
  simp only [EntS.same, Bool.and_eq_true, beq_iff_eq] at h
  obtain ⟨rfl, rfl, rfl, h4⟩ := h
  have : t = t' := by
    rw [ByteArray.toList_eq, ByteArray.toList_eq] at h4
    exact ByteArray.ext (Array.toList_inj.1 h4)
  rw [this]

theorem refAccept_eq (d : AccS) (m : MsgS) (hf : d.fine) (ha : d.above) : d.refAccept m = ((d.accept m).1, (d.accept m).2.1) := by
  unfold AccS.refAccept AccS.accept
  by_cases hl : d.low m.bal = true
  · rw [if_pos hl, if_pos hl]
  · rw [if_neg hl, if_neg hl]
    unfold AccS.acceptOn
    simp only
    by_cases hb : d.base < m.slot
    · rw [if_pos hb]
      have hd : decide (m.slot ≤ d.base) = false := decide_eq_false (by omega)
      rw [hd, insFold_sorted d.list ⟨m.slot, m.bal, d.kept m.text⟩ hf.sorted]
      by_cases hth : hasSlot d.list m.slot = true
      · obtain ⟨hi, hsl⟩ := there_at d.list m.slot hf.sorted hth
        have hfew := ha.few
        rw [if_pos hth, if_pos hth]
        simp only [if_true]
        rw [if_neg (by simp; omega)]
        split
        · rename_i hsm
          have := same_eq hsm
          have h2 : d.list.set (aheadOf d.list m.slot) ⟨m.slot, m.bal, d.kept m.text⟩ = d.list := by
            rw [← this, getD_in hi, List.set_getElem_self]
          simp only
          rw [h2]
        · rfl
      · rw [if_neg hth, if_neg hth]
        by_cases hk : aheadOf d.list m.slot < d.list.length
        · rw [if_pos hk]
          simp only [if_true]
          by_cases h64 : 64 ≤ d.list.length
          · rw [if_pos h64, if_pos ⟨hb, by omega⟩]
          · rw [if_neg h64, if_neg (by omega)]
        · rw [if_neg hk]
          have hk' : aheadOf d.list m.slot = d.list.length := by have := aheadOf_le d.list m.slot; omega
          simp only [if_true]
          by_cases h64 : 64 ≤ d.list.length
          · rw [if_pos h64, if_pos ⟨hb, by omega⟩]
          · rw [if_neg h64, if_neg (by omega)]
            simp [hk']
    · rw [if_neg hb, if_neg (fun h => hb h.1)]
      have hd : decide (m.slot ≤ d.base) = true := decide_eq_true (by omega)
      rw [hd, insFold_done _ _ _ _ (fun e he => by have := ha.up e he; simp only; omega)]
      simp

/-! ### The bytes of a state -/

def entBytes (e : EntS) : List UInt8 := nBytes e.slot ++ (uBytes e.bal.c.toNat ++ nBytes e.bal.n) ++ sBytes e.text
def AccS.bytes (d : AccS) : List UInt8 := (uBytes d.bal.c.toNat ++ nBytes d.bal.n) ++ nBytes d.base ++ nBytes d.list.length ++ d.list.flatMap entBytes ++ nBytes d.node ++ nBytes d.til

/-- A ballot of numbers that there may be. -/
structure BalS.ok (b : BalS) : Prop where
  c0 : 0 ≤ b.c
  c1 : b.c < 18446744073709551616
  n0 : 0 ≤ b.n
  n1 : b.n ≤ 11
structure EntS.ok (e : EntS) : Prop where
  slot0 : 0 ≤ e.slot
  slot1 : e.slot ≤ 1099511627776
  bal : e.bal.ok
  text : e.text.size ≤ 400

theorem bal_prefix (a b : BalS) (ha : a.ok) (hb : b.ok) (r s : List UInt8) (h : uBytes a.c.toNat ++ (nBytes a.n ++ r) = uBytes b.c.toNat ++ (nBytes b.n ++ s)) : a = b ∧ r = s := by
  obtain ⟨h1, h2⟩ := uBytes_prefix _ _ (by have := ha.c0; have := ha.c1; omega) (by have := hb.c0; have := hb.c1; omega) _ _ h
  obtain ⟨h3, h4⟩ := nBytes_prefix _ _ (by have := ha.n0; have := ha.n1; omega) (by have := hb.n0; have := hb.n1; omega) _ _ h2
  have := ha.c0
  have := hb.c0
  obtain ⟨ac, an⟩ := a
  obtain ⟨bc, bn⟩ := b
  simp only at *
  exact ⟨by rw [show ac = bc by omega, h3], h4⟩
theorem ent_prefix (a b : EntS) (ha : a.ok) (hb : b.ok) (r s : List UInt8) (h : entBytes a ++ r = entBytes b ++ s) : a = b ∧ r = s := by
  unfold entBytes at h
  simp only [List.append_assoc] at h
  obtain ⟨h1, h2⟩ := nBytes_prefix _ _ (by have := ha.slot0; have := ha.slot1; omega) (by have := hb.slot0; have := hb.slot1; omega) _ _ h
  obtain ⟨h3, h4⟩ := bal_prefix _ _ ha.bal hb.bal _ _ h2
  obtain ⟨h5, h6⟩ := sBytes_prefix _ _ (by have := ha.text; omega) (by have := hb.text; omega) _ _ h4
  obtain ⟨a1, a2, a3⟩ := a
  obtain ⟨b1, b2, b3⟩ := b
  simp only at *
  exact ⟨by rw [h1, h3, h5], h6⟩
theorem ents_prefix : ∀ (a b : List EntS), (∀ e ∈ a, e.ok) → (∀ e ∈ b, e.ok) → a.length = b.length → ∀ (r s : List UInt8), a.flatMap entBytes ++ r = b.flatMap entBytes ++ s → a = b ∧ r = s
  | [], [], _, _, _, r, s, h => ⟨rfl, h⟩
  | [], _ :: _, _, _, h, _, _, _ => by simp at h
  | _ :: _, [], _, _, h, _, _, _ => by simp at h
  | x :: a, y :: b, ha, hb, hl, r, s, h => by
    simp only [List.flatMap_cons, List.append_assoc] at h
    obtain ⟨h1, h2⟩ := ent_prefix x y (ha x (by simp)) (hb y (by simp)) _ _ h
    obtain ⟨h3, h4⟩ := ents_prefix a b (fun e he => ha e (by simp [he])) (fun e he => hb e (by simp [he])) (by simpa using hl) _ _ h2
    exact ⟨by rw [h1, h3], h4⟩

/-- A state of numbers that there may be. -/
structure AccS.small (d : AccS) : Prop where
  fine : d.fine
  above : d.above
  bal : d.bal.ok
  ents : ∀ e ∈ d.list, e.ok

theorem bytes_inj (a b : AccS) (ha : a.small) (hb : b.small) (hw : a.wit = b.wit) (h : a.bytes = b.bytes) : a = b := by
  unfold AccS.bytes at h
  simp only [List.append_assoc] at h
  obtain ⟨h1, h2⟩ := bal_prefix _ _ ha.bal hb.bal _ _ h
  obtain ⟨h3, h4⟩ := nBytes_prefix _ _ (by have := ha.fine.base0; have := ha.fine.base1; omega) (by have := hb.fine.base0; have := hb.fine.base1; omega) _ _ h2
  obtain ⟨h5, h6⟩ := nBytes_prefix _ _ (by have := ha.above.few; omega) (by have := hb.above.few; omega) _ _ h4
  obtain ⟨h7, h8⟩ := ents_prefix _ _ ha.ents hb.ents (by omega) _ _ h6
  obtain ⟨h9, h10⟩ := nBytes_prefix _ _ (by have := ha.fine.node0; have := ha.fine.node1; omega) (by have := hb.fine.node0; have := hb.fine.node1; omega) _ _ h8
  have h10' : nBytes a.til ++ [] = nBytes b.til ++ [] := by simpa using h10
  obtain ⟨h11, _⟩ := nBytes_prefix _ _ (by have := ha.fine.til0; have := ha.fine.til1; omega) (by have := hb.fine.til0; have := hb.fine.til1; omega) _ _ h10'
  obtain ⟨aw, ab, abase, al, an, at'⟩ := a
  obtain ⟨bw, bb, bbase, bl, bn, bt'⟩ := b
  simp only at *
  rw [hw, h1, h3, h7, h9, h11]
end Go.Proofs.Ytfhmdeamhmjddaa

/-
  Plain laws of layer 16: every call leaves a state of numbers there may be, and tells rightly whether its bytes changed. No program in sight. Conditions: those that each theorem states.
-/
set_option linter.unusedVariables false
set_option linter.unusedSimpArgs false
namespace Go.Proofs.Ytfhmdeamhmjddaa

theorem small_acc0 (wit : Bool) : (acc0 wit).small := ⟨acc0_fine wit, ⟨fun e he => by simp [acc0] at he, by simp [acc0]⟩, ⟨by simp [acc0], by simp [acc0], by simp [acc0], by simp [acc0]⟩, fun e he => by simp [acc0] at he⟩

/-- A message of numbers that there may be. -/
structure MsgS.small (m : MsgS) : Prop where
  ok : m.okM
  bal : m.bal.ok
  text : m.text.size ≤ 400

theorem kept_size (d : AccS) (s : ByteArray) (h : s.size ≤ 400) : (d.kept s).size ≤ 400 := by
  unfold AccS.kept
  split
  · rw [digestOf_size]; omega
  · exact h
theorem prepare_small (d : AccS) (m : MsgS) (now : Int) (hd : d.small) (hm : m.small) : (d.prepare m now).1.small := by
  have hf := prepare_fine d m now hd.fine
  unfold AccS.prepare at *
  split
  · exact hd
  · rename_i h1
    rw [if_neg h1] at hf
    split
    · exact hd
    · rename_i h2
      rw [if_neg h2] at hf
      exact ⟨hf, ⟨hd.above.up, hd.above.few⟩, hm.bal, hd.ents⟩
theorem set_len {l : List EntS} {i : Nat} {x : EntS} : (l.set i x).length = l.length := List.length_set
theorem accept_small (d : AccS) (m : MsgS) (hd : d.small) (hm : m.small) : (d.accept m).1.small := by
  have hf := accept_fine d m hd.fine hm.ok
  unfold AccS.accept at *
  by_cases h1 : d.low m.bal = true
  · rw [if_pos h1]; exact hd
  · rw [if_neg h1] at hf ⊢
    unfold AccS.acceptOn at *
    have hx : (EntS.mk m.slot m.bal (d.kept m.text)).ok := ⟨hm.ok.slot0, hm.ok.slot1, hm.bal, kept_size d _ hm.text⟩
    simp only at *
    by_cases h2 : d.base < m.slot
    · rw [if_pos h2] at hf ⊢
      by_cases h3 : hasSlot d.list m.slot = true
      · rw [if_pos h3] at hf ⊢
        split at hf
        · rename_i h4
          rw [if_pos h4]
          exact ⟨hf, ⟨hd.above.up, hd.above.few⟩, hm.bal, hd.ents⟩
        · rename_i h4
          rw [if_neg h4]
          refine ⟨hf, ⟨fun e he => ?_, by simpa using hd.above.few⟩, hm.bal, fun e he => ?_⟩
          · rcases List.mem_or_eq_of_mem_set he with h | rfl
            · exact hd.above.up e h
            · exact h2
          · rcases List.mem_or_eq_of_mem_set he with h | rfl
            · exact hd.ents e h
            · exact hx
      · rw [if_neg h3] at hf ⊢
        by_cases h4 : 64 ≤ d.list.length
        · rw [if_pos h4]; exact hd
        · rw [if_neg h4] at hf ⊢
          have hle := aheadOf_le d.list m.slot
          have hmem : ∀ e, e ∈ d.list.take (aheadOf d.list m.slot) ++ (⟨m.slot, m.bal, d.kept m.text⟩ : EntS) :: d.list.drop (aheadOf d.list m.slot) → e ∈ d.list ∨ e = ⟨m.slot, m.bal, d.kept m.text⟩ := fun e he => by
            rcases List.mem_append.1 he with h | h
            · exact .inl (List.mem_of_mem_take h)
            · rcases List.mem_cons.1 h with h | h
              · exact .inr h
              · exact .inl (List.mem_of_mem_drop h)
          refine ⟨hf, ⟨fun e he => ?_, ?_⟩, hm.bal, fun e he => ?_⟩
          · rcases hmem e he with h | rfl
            · exact hd.above.up e h
            · exact h2
          · simp only [List.length_append, List.length_take, List.length_cons, List.length_drop]; omega
          · rcases hmem e he with h | rfl
            · exact hd.ents e h
            · exact hx
    · rw [if_neg h2] at hf ⊢
      exact ⟨hf, ⟨hd.above.up, hd.above.few⟩, hm.bal, hd.ents⟩
theorem ask_small (d : AccS) (m : MsgS) (now long : Int) (hd : d.small) (hm : m.small) (hfr : 0 ≤ m.frm ∧ m.frm < 1099511627776) (hnow : TimeIn now) (hlong : TimeIn long) : (d.ask m now long).1.small := by
  have hf := ask_fine d m now long hd.fine hfr hnow hlong
  unfold AccS.ask at *
  split
  · exact hd
  · rename_i h1
    rw [if_neg h1] at hf
    split
    · exact hd
    · rename_i h2
      rw [if_neg h2] at hf
      exact ⟨hf, ⟨hd.above.up, hd.above.few⟩, hm.bal, hd.ents⟩
theorem trim_fine (d : AccS) (base : Int) (hf : d.fine) (hb : base ≤ 1099511627776) : (d.trim base).fine := by
  unfold AccS.trim
  split
  · have := hf.base0
    exact ⟨⟨Nat.le_trans (List.length_filter_le _ _) hf.sorted.len, fun e he => hf.sorted.slots e (List.mem_filter.1 he).1, hf.sorted.order.sublist List.filter_sublist⟩, (by simp only; omega), hb, hf.node0, hf.node1, hf.til0, hf.til1⟩
  · exact hf
theorem trim_small (d : AccS) (base : Int) (hd : d.small) (hb : base ≤ 1099511627776) : (d.trim base).small := by
  have hf := trim_fine d base hd.fine hb
  unfold AccS.trim at *
  split
  · rename_i h1
    rw [if_pos h1] at hf
    exact ⟨hf, ⟨fun e he => by have := (List.mem_filter.1 he).2; simpa [keptBy] using this, Nat.le_trans (List.length_filter_le _ _) hd.above.few⟩, hd.bal, fun e he => hd.ents e (List.mem_filter.1 he).1⟩
  · exact hd

/-- Are the bytes of two states not the same? -/
def AccS.turned (a b : AccS) : Bool := !(a.bytes == b.bytes)
theorem turned_iff (a b : AccS) (ha : a.small) (hb : b.small) (hw : a.wit = b.wit) : a.turned b = true ↔ a ≠ b := by
  unfold AccS.turned
  simp only [Bool.not_eq_true', beq_eq_false_iff_ne, ne_eq]
  constructor
  · rintro h rfl; exact h rfl
  · intro h e; exact h (bytes_inj a b ha hb hw e)
theorem balB (a b : BalS) : (!(a.c == b.c && a.n == b.n)) = true ↔ a ≠ b := by
  obtain ⟨ac, an⟩ := a
  obtain ⟨bc, bn⟩ := b
  simp only [Bool.not_eq_true', Bool.and_eq_false_iff, beq_eq_false_iff_ne, BalS.mk.injEq, ne_eq]
  omega
theorem prepare_wit (d : AccS) (m : MsgS) (now : Int) : d.wit = (d.prepare m now).1.wit := by
  unfold AccS.prepare; (repeat' split) <;> rfl
theorem accept_wit (d : AccS) (m : MsgS) : d.wit = (d.accept m).1.wit := by
  unfold AccS.accept AccS.acceptOn; simp only; (repeat' split) <;> rfl
theorem ask_wit (d : AccS) (m : MsgS) (now long : Int) : d.wit = (d.ask m now long).1.wit := by
  unfold AccS.ask; simp only; (repeat' split) <;> rfl
theorem trim_wit (d : AccS) (base : Int) : d.wit = (d.trim base).wit := by
  unfold AccS.trim; (repeat' split) <;> rfl
theorem ne_bal (d : AccS) (b : BalS) : d ≠ { d with bal := b } ↔ d.bal ≠ b := by
  obtain ⟨w, b', base, l, n, t⟩ := d
  simp
theorem prepare_turned (d : AccS) (m : MsgS) (now : Int) (hd : d.small) (hm : m.small) : (d.prepare m now).2.2.2 = d.turned (d.prepare m now).1 := by
  rw [Bool.eq_iff_iff, turned_iff _ _ hd (prepare_small d m now hd hm) (prepare_wit d m now)]
  unfold AccS.prepare
  split
  · simp
  · split
    · simp
    · simp only
      rw [balB, ne_bal]
theorem accept_turned (d : AccS) (m : MsgS) (hd : d.small) (hm : m.small) : (d.accept m).2.2 = d.turned (d.accept m).1 := by
  rw [Bool.eq_iff_iff, turned_iff _ _ hd (accept_small d m hd hm) (accept_wit d m)]
  unfold AccS.accept
  by_cases h1 : d.low m.bal = true
  · rw [if_pos h1]; simp
  · rw [if_neg h1]
    unfold AccS.acceptOn
    simp only
    by_cases h2 : d.base < m.slot
    · rw [if_pos h2]
      by_cases h3 : hasSlot d.list m.slot = true
      · rw [if_pos h3]
        obtain ⟨hi, hsl⟩ := there_at d.list m.slot hd.fine.sorted h3
        split
        · simp only
          rw [balB, ne_bal]
        · rename_i h4
          simp only [true_iff]
          intro e
          have h5 := congrArg AccS.list e
          simp only at h5
          apply h4
          rw [getD_in hi]
          have h6 : d.list[aheadOf d.list m.slot] = ⟨m.slot, m.bal, d.kept m.text⟩ := by
            have h7 : (d.list.set (aheadOf d.list m.slot) ⟨m.slot, m.bal, d.kept m.text⟩)[aheadOf d.list m.slot]? = some ⟨m.slot, m.bal, d.kept m.text⟩ := by
              rw [List.getElem?_set_self hi]
            rw [← h5, List.getElem?_eq_getElem hi] at h7
            simpa using h7
          rw [h6]
          simp [EntS.same]
      · rw [if_neg h3]
        split
        · simp
        · simp only [true_iff]
          intro e
          have h5 := congrArg (fun x : AccS => x.list.length) e
          have hle := aheadOf_le d.list m.slot
          simp only [List.length_append, List.length_take, List.length_cons, List.length_drop] at h5
          omega
    · rw [if_neg h2]
      simp only
      rw [balB, ne_bal]
theorem ask_turned (d : AccS) (m : MsgS) (now long : Int) (hd : d.small) (hm : m.small) (hfr : 0 ≤ m.frm ∧ m.frm < 1099511627776) (hnow : TimeIn now) (hlong : TimeIn long) : (d.ask m now long).2.2 = d.turned (d.ask m now long).1 := by
  rw [Bool.eq_iff_iff, turned_iff _ _ hd (ask_small d m now long hd hm hfr hnow hlong) (ask_wit d m now long)]
  unfold AccS.ask
  split
  · simp
  · split
    · simp
    · simp only
      rw [Bool.or_eq_true, balB]
      obtain ⟨w, ⟨c, n⟩, base, l, nd, t⟩ := d
      simp only [AccS.mk.injEq, ne_eq, true_and, not_and, Bool.not_eq_true', Bool.and_eq_false_iff, beq_eq_false_iff_ne]
      constructor
      · rintro (h | h | h) h1 h2
        · exact absurd h1 h
        · exact fun _ => h h2.symm
        · exact fun h3 => h h3.symm
      · intro h
        by_cases h1 : (⟨c, n⟩ : BalS) = m.bal
        · by_cases h2 : nd = m.frm + 1
          · exact .inr (.inr (fun h3 => h h1 h2 h3.symm))
          · exact .inr (.inl (fun h3 => h2 h3.symm))
        · exact .inl h1
theorem trim_turned (d : AccS) (base : Int) (hd : d.small) (hb : base ≤ 1099511627776) : decide (d.base < base) = d.turned (d.trim base) := by
  rw [Bool.eq_iff_iff, turned_iff _ _ hd (trim_small d base hd hb) (trim_wit d base)]
  unfold AccS.trim
  by_cases h : d.base < base
  · rw [if_pos h]
    simp only [h, decide_true, true_iff]
    intro e
    have := congrArg AccS.base e
    simp only at this
    omega
  · rw [if_neg h]
    simp [h]
end Go.Proofs.Ytfhmdeamhmjddaa
