/-
  AcceptKeeps of layer 16, walked: it answers true. Condition: the list of calls reads as one.
-/
import Derived.Test.YtfhmdeamhmjddaaBm8
import Derived.Deep.Cut
import Derived.Deep.CutRange
import Derived.Deep.CutBlock
set_option linter.unusedVariables false
set_option linter.unusedSimpArgs false
set_option maxRecDepth 100000
namespace Go.Proofs.Ytfhmdeamhmjddaa
open Go.RowKit

/-- A list of calls, as it reads in memory. -/
def Acts16At (w : World) (v : Value) (n : Nat) : Prop :=
  ∃ a cap, v = .slice a n cap ∧ n ≤ cap ∧ cap ≤ 9223372036854775807 ∧ (0 < n → ∃ k o, a = some ⟨k, o, none⟩ ∧ k < w.heap.size ∧ ∀ i, i < n → ∃ x : ActS, (∀ j, j < 9 → w.cell? ⟨k, o + (i * 9 + j), none⟩ = x.cells[j]?) ∧ x.text.size ≤ 9223372036854775807)

/-- A message there may be. -/
structure MsgS.okM (m : MsgS) : Prop where
  slot0 : 0 ≤ m.slot
  slot1 : m.slot ≤ 1099511627776
  frm : TimeIn m.frm
  text : m.text.size ≤ 1099511627776
theorem MsgS.okM.slotIn {m : MsgS} (h : m.okM) : SlotIn m.slot := ⟨by have := h.slot0; omega, h.slot1⟩

theorem sorted_from (l : List EntS) (n : Int) (hs : SortedE l) (t : Nat) (ht : t < l.length) (h : aheadOf l n ≤ t) : n ≤ l[t].slot := by
  obtain ⟨h1, h2⟩ := aheadOf_spec l n
  have hkl : aheadOf l n < l.length := by omega
  have hk := h2 hkl
  clear h1 h2
  generalize aheadOf l n = k at *
  rcases Nat.lt_or_ge k t with h3 | h3
  · have := List.pairwise_iff_getElem.1 hs.order k t (by omega) ht h3
    omega
  · obtain rfl : t = k := by omega
    exact hk

theorem sorted_ins (l : List EntS) (x : EntS) (hs : SortedE l) (hl : l.length < 1024) (hx : SlotIn x.slot) (hn : hasSlot l x.slot = false) : SortedE (l.take (aheadOf l x.slot) ++ x :: l.drop (aheadOf l x.slot)) := by
  have hi := aheadOf_le l x.slot
  have hsp := (aheadOf_spec l x.slot).1
  have hfr := sorted_from l x.slot hs
  simp only [hasSlot, List.any_eq_false, beq_iff_eq] at hn
  generalize aheadOf l x.slot = i at *
  refine ⟨by rw [ents_ins_len l x i hi]; omega, fun e he => ?_, ?_⟩
  · rcases List.mem_append.1 he with h | h
    · exact hs.slots e (List.mem_of_mem_take h)
    · rcases List.mem_cons.1 h with rfl | h
      · exact hx
      · exact hs.slots e (List.mem_of_mem_drop h)
  · have hlo : ∀ e ∈ l.take i, e.slot < x.slot := fun e he => by
      obtain ⟨t, ht, rfl⟩ := List.getElem_of_mem he
      rw [List.getElem_take]
      simp only [List.length_take] at ht
      exact hsp t (by omega) (by omega)
    have hhi : ∀ e ∈ l.drop i, x.slot < e.slot := fun e he => by
      obtain ⟨t, ht, rfl⟩ := List.getElem_of_mem he
      simp only [List.length_drop] at ht
      have h1 := hfr (i + t) (by omega) (by omega)
      have h2 := hn l[i + t] (List.getElem_mem _)
      rw [List.getElem_drop]
      omega
    rw [List.pairwise_append]
    refine ⟨hs.order.sublist (List.take_sublist _ _), ?_, fun a ha c hc => ?_⟩
    · rw [List.pairwise_cons]
      exact ⟨hhi, hs.order.sublist (List.drop_sublist _ _)⟩
    · rcases List.mem_cons.1 hc with rfl | hc
      · exact hlo a ha
      · have := hlo a ha; have := hhi c hc; omega

theorem sorted_set (l : List EntS) (x : EntS) (i : Nat) (hs : SortedE l) (hi : i < l.length) (hx : l[i].slot = x.slot) : SortedE (l.set i x) := by
  have hget : ∀ t (ht : t < (l.set i x).length), (l.set i x)[t].slot = (l[t]'(by simpa using ht)).slot := fun t ht => by
    rw [List.getElem_set]
    split
    · rename_i h; subst h; exact hx.symm
    · rfl
  refine ⟨by simpa using hs.len, fun e he => ?_, ?_⟩
  · obtain ⟨t, ht, rfl⟩ := List.getElem_of_mem he
    rw [hget t ht]
    exact hs.slots _ (List.getElem_mem _)
  · rw [List.pairwise_iff_getElem]
    intro p q hp hq hpq
    rw [hget p hp, hget q hq]
    exact List.pairwise_iff_getElem.1 hs.order p q _ _ hpq

theorem prepare_fine (d : AccS) (m : MsgS) (now : Int) (hf : d.fine) : (d.prepare m now).1.fine := by
  unfold AccS.prepare
  split
  · exact hf
  · split
    · exact hf
    · exact ⟨hf.sorted, hf.base0, hf.base1, hf.node0, hf.node1, hf.til0, hf.til1⟩
theorem accept_fine (d : AccS) (m : MsgS) (hf : d.fine) (hm : m.okM) : (d.accept m).1.fine := by
  unfold AccS.accept
  split
  · exact hf
  · unfold AccS.acceptOn
    simp only
    split
    · split
      · rename_i hth
        obtain ⟨hi, hsl⟩ := there_at d.list m.slot hf.sorted hth
        split
        · exact ⟨hf.sorted, hf.base0, hf.base1, hf.node0, hf.node1, hf.til0, hf.til1⟩
        · exact ⟨sorted_set _ _ _ hf.sorted hi hsl, hf.base0, hf.base1, hf.node0, hf.node1, hf.til0, hf.til1⟩
      · rename_i hth
        split
        · exact hf
        · exact ⟨sorted_ins d.list ⟨m.slot, m.bal, d.kept m.text⟩ hf.sorted (by omega) hm.slotIn (by simpa using hth), hf.base0, hf.base1, hf.node0, hf.node1, hf.til0, hf.til1⟩
    · exact ⟨hf.sorted, hf.base0, hf.base1, hf.node0, hf.node1, hf.til0, hf.til1⟩
theorem ask_fine (d : AccS) (m : MsgS) (now long : Int) (hf : d.fine) (hfr : 0 ≤ m.frm ∧ m.frm < 1099511627776) (hnow : TimeIn now) (hlong : TimeIn long) : (d.ask m now long).1.fine := by
  obtain ⟨h1, h2⟩ := hnow
  obtain ⟨h3, h4⟩ := hlong
  have hl : 0 ≤ laterI now long ∧ laterI now long ≤ 1099511627776 := by unfold laterI; omega
  have := hf.til0
  have := hf.til1
  unfold AccS.ask
  split
  · exact hf
  · split
    · exact hf
    · simp only
      exact ⟨hf.sorted, hf.base0, hf.base1, (by simp only; omega), (by simp only; omega), (by simp only; split <;> omega), (by simp only; split <;> omega)⟩

/-- What the law asks of one call: of the state ahead of it, the state behind it, and the answer. -/
structure KeepsOk (d d' : AccS) (m got : MsgS) (now : Int) : Prop where
  bal : ¬ d'.bal.cmp d.bal < 0
  acc : got.kind = 4 → ¬ m.bal.cmp d.bal < 0 ∧ d'.bal = m.bal
  grant : ¬ (0 ≤ d.node - 1 ∧ d.node - 1 ≠ m.frm ∧ now < d.til ∧ (got.kind = 2 ∨ got.kind = 11))
  hold : ¬ ((0 ≤ d.node - 1 ∧ d'.node - 1 ≠ d.node - 1 ∧ now < d.til) ∨ (d'.node - 1 = d.node - 1 ∧ d'.til < d.til))

theorem cmp_self (b : BalS) : b.cmp b = 0 := by simp [BalS.cmp, cmpI, orI]
theorem keeps_same (d : AccS) (m got : MsgS) (now : Int) (h4 : got.kind ≠ 4) (h2 : got.kind ≠ 2) (h11 : got.kind ≠ 11) : KeepsOk d d m got now :=
  ⟨by rw [cmp_self]; omega, fun h => absurd h h4, fun ⟨_, _, _, h⟩ => h.elim h2 h11, by omega⟩
theorem low_not {d : AccS} {b : BalS} (h : ¬ d.low b = true) : ¬ b.cmp d.bal < 0 := by simpa [AccS.low] using h
theorem others_not {d : AccS} {n now : Int} (h : ¬ d.others n now = true) : d.node = 0 ∨ d.node = n + 1 ∨ d.til ≤ now := by
  simp only [AccS.others, Bool.and_eq_true, decide_eq_true_eq, not_and] at h
  by_cases h1 : d.node = 0
  · exact .inl h1
  · by_cases h2 : d.node = n + 1
    · exact .inr (.inl h2)
    · exact .inr (.inr (by have := h ⟨h1, h2⟩; omega))
theorem keeps_prepare (d : AccS) (m : MsgS) (now : Int) (hf : d.fine) : KeepsOk d (d.prepare m now).1 m (d.prepare m now).2.1 now := by
  unfold AccS.prepare
  split
  · exact keeps_same d m _ now (by simp) (by simp) (by simp)
  · rename_i ho
    split
    · exact keeps_same d m _ now (by simp) (by simp) (by simp)
    · rename_i hl
      have := others_not ho
      have := hf.node0
      exact ⟨low_not hl, fun h => by simp at h, by simp only; omega, by simp only; omega⟩
theorem keeps_accept (d : AccS) (m : MsgS) (now : Int) : KeepsOk d (d.accept m).1 m (d.accept m).2.1 now := by
  unfold AccS.accept
  split
  · exact keeps_same d m _ now (by simp) (by simp) (by simp)
  · rename_i hl
    have hlo := low_not hl
    unfold AccS.acceptOn
    simp only
    have key : ∀ d' : AccS, d'.bal = m.bal → d'.node = d.node → d'.til = d.til → KeepsOk d d' m { kind := 4, bal := m.bal, slot := m.slot } now := fun d' h1 h2 h3 =>
      ⟨by rw [h1]; exact hlo, fun _ => ⟨hlo, h1⟩, by simp, by omega⟩
    split
    · split
      · split
        · exact key _ rfl rfl rfl
        · exact key _ rfl rfl rfl
      · split
        · exact keeps_same d m _ now (by simp) (by simp) (by simp)
        · exact key _ rfl rfl rfl
    · exact key _ rfl rfl rfl
theorem keeps_ask (d : AccS) (m : MsgS) (now long : Int) (hf : d.fine) (hfr : 0 ≤ m.frm) : KeepsOk d (d.ask m now long).1 m (d.ask m now long).2.1 now := by
  unfold AccS.ask
  split
  · exact keeps_same d m _ now (by simp) (by simp) (by simp)
  · rename_i hl
    split
    · exact keeps_same d m _ now (by simp) (by simp) (by simp)
    · rename_i ho
      have := others_not ho
      have := hf.node0
      simp only
      refine ⟨low_not hl, fun h => by simp at h, by simp only; omega, ?_⟩
      simp only
      split <;> omega
theorem blk_msg {w : World} {k T : Nat} {a0 a1 a2 a3 a4 a5 a6 a7 a8 a9 a10 : Value} (h : Blk w k #[a0, a1, a2, a3, a4, a5, a6, a7, a8, a9, a10] T) (v0 v1 v2 v3 v4 v5 v6 v7 v8 v9 v10 : Value) : Blk (((((((((((w.setCell ⟨k, 0, none⟩ v0).setCell ⟨k, 1, none⟩ v1).setCell ⟨k, 2, none⟩ v2).setCell ⟨k, 3, none⟩ v3).setCell ⟨k, 4, none⟩ v4).setCell ⟨k, 5, none⟩ v5).setCell ⟨k, 6, none⟩ v6).setCell ⟨k, 7, none⟩ v7).setCell ⟨k, 8, none⟩ v8).setCell ⟨k, 9, none⟩ v9).setCell ⟨k, 10, none⟩ v10) k #[v0, v1, v2, v3, v4, v5, v6, v7, v8, v9, v10] T := by
  have h0 : Blk _ k #[v0, a1, a2, a3, a4, a5, a6, a7, a8, a9, a10] T := h.set 0 v0
  have h1 : Blk _ k #[v0, v1, a2, a3, a4, a5, a6, a7, a8, a9, a10] T := h0.set 1 v1
  have h2 : Blk _ k #[v0, v1, v2, a3, a4, a5, a6, a7, a8, a9, a10] T := h1.set 2 v2
  have h3 : Blk _ k #[v0, v1, v2, v3, a4, a5, a6, a7, a8, a9, a10] T := h2.set 3 v3
  have h4 : Blk _ k #[v0, v1, v2, v3, v4, a5, a6, a7, a8, a9, a10] T := h3.set 4 v4
  have h5 : Blk _ k #[v0, v1, v2, v3, v4, v5, a6, a7, a8, a9, a10] T := h4.set 5 v5
  have h6 : Blk _ k #[v0, v1, v2, v3, v4, v5, v6, a7, a8, a9, a10] T := h5.set 6 v6
  have h7 : Blk _ k #[v0, v1, v2, v3, v4, v5, v6, v7, a8, a9, a10] T := h6.set 7 v7
  have h8 : Blk _ k #[v0, v1, v2, v3, v4, v5, v6, v7, v8, a9, a10] T := h7.set 8 v8
  have h9 : Blk _ k #[v0, v1, v2, v3, v4, v5, v6, v7, v8, v9, a10] T := h8.set 9 v9
  have h10 : Blk _ k #[v0, v1, v2, v3, v4, v5, v6, v7, v8, v9, v10] T := h9.set 10 v10
  exact h10

set_option maxHeartbeats 8000000 in
theorem keeps16_law (wit : Bool) (v : Value) (n : Nat) (w : World) (hv : Acts16At w v n) :
    Calls Try.prog 4 #[.bool wit, v] w fun e w' => e = .returned (.bool true) ∧ Upd [] w w' := by
  obtain ⟨a, cap, rfl, hnc, hc, hel⟩ := hv
  have HE := hd hel
  clear hel
  go_enter Try.func4, Try.ntmps4
  go_wp2_with fail
  refine (awake_any w).mono ?_
  rintro e w1 ⟨rfl, hu1⟩
  have HU1 := hd hu1
  clear hu1
  go_wp2_with fail
  refine (anew_any wit w1).mono ?_
  rintro e w2 ⟨rfl, hu2, hd2, hlt2⟩
  obtain ⟨b, hb⟩ : ∃ b, b = w1.heap.size := ⟨_, rfl⟩
  rw [← hb] at hd2 hlt2 ⊢
  have hwb : w.heap.size ≤ b := by have := HU1.out.size; omega
  have HU2 := hd (HU1.out.trans hu2)
  have HD2 := hd (show AccAt w.heap.size w2 b (.slice none 0 0) (acc0 wit) from ⟨hd2.blk, own_mono hd2.own (by omega)⟩)
  clear hu2 hd2 hb HU1 hlt2
  go_wp2_with fail
  go_loopw [6] (fun c wr => ∃ (t : Nat) (d : AccS) (l : Value), c = .int .i64 t ∧ t ≤ 60 ∧ d.fine ∧ Upd [] w wr ∧ AccAt w.heap.size wr b l d) (fun c _ => 60 - (intOf c).toNat)
  case atStart => exact ⟨0, _, _, rfl, by omega, acc0_fine wit, HU2.out, HD2.out⟩
  case round =>
    clear HD2 HU2
    obtain ⟨t, d, l, rfl, ht, hf, hu, h⟩ := hrel
    have HF := hd hf
    have HU := hd hu
    have H := hd h
    clear hf hu h
    by_cases htn : t < n
    · by_cases ht60 : t < 60
      · obtain ⟨k, o, rfl, hk, hx⟩ := HE.out (by omega)
        obtain ⟨x, hxc, hxs⟩ := hx t htn
        have HX := hd hx
        have hcell : ∀ j, j < 9 → wr.cell? ⟨k, o + (t * 9 + j), none⟩ = x.cells[j]? := fun j hj => by rw [← hxc j hj]; exact World.cell?_of_block (HU.out.block k hk (by simp))
        simp only [ActS.cells] at hcell
        have hc0 := hcell 0 (by omega)
        have hc1 := hcell 1 (by omega)
        have hc2 := hcell 2 (by omega)
        have hc3 := hcell 3 (by omega)
        have hc4 := hcell 4 (by omega)
        have hc5 := hcell 5 (by omega)
        have hc6 := hcell 6 (by omega)
        have hc7 := hcell 7 (by omega)
        have hc8 := hcell 8 (by omega)
        simp at hc0 hc1 hc2 hc3 hc4 hc5 hc6 hc7 hc8
        simp only [← Nat.add_assoc] at hc0 hc1 hc2 hc3 hc4 hc5 hc6 hc7 hc8
        clear hx hxc hcell HX
        have hfew := few_any x
        have HFW := hd (fun w => hfew w hxs)
        clear hfew
        unfold ActS.cells at HFW
        clear HE
        go_wp2_with fail
        refine (HFW.out _).mono ?_
        rintro e wA ⟨rfl, huA⟩
        have hy : 0 ≤ x.few.frm ∧ x.few.frm < 12 ∧ 0 ≤ x.few.slot ∧ x.few.slot < 256 ∧ 0 ≤ x.few.time ∧ x.few.time < 65536 ∧ 0 ≤ x.few.now ∧ x.few.now < 65536 ∧ 0 ≤ x.few.long ∧ x.few.long < 65536 ∧ x.few.text.size ≤ 30 := by
          have := cutTo_size x.text 30
          simp only [ActS.few]; omega
        have HUA := hd (HU.out.trans huA)
        have HA := hd (H.out.later huA)
        clear huA HFW hc0 hc1 hc2 hc3 hc4 hc5 hc6 hc7 hc8 HU H
        generalize x.few = y at *
        clear hxs hk
        obtain ⟨y1, y2, y3, y4, y5, y6, y7, y8, y9, y10, y11⟩ := hy
        have hf := HF.out
        have hn0 := hf.node0
        have hn1 := hf.node1
        have ht0 := hf.til0
        have ht1 := hf.til1
        clear hf
        have hY := Blk.new wA #[.int .i64 y.kind, .int .i64 y.frm, .int .i64 y.slot, .int .i64 y.time, .int .i64 y.now, .int .i64 y.long, .int .u64 y.bal.c, .int .i64 y.bal.n, .string y.text] 33
        have HA1 := hd (HA.out.alloc (.cells #[.int .i64 y.kind, .int .i64 y.frm, .int .i64 y.slot, .int .i64 y.time, .int .i64 y.now, .int .i64 y.long, .int .u64 y.bal.c, .int .i64 y.bal.n, .string y.text] 33))
        have HUA1 := hd (HUA.out.alloc (.cells #[.int .i64 y.kind, .int .i64 y.frm, .int .i64 y.slot, .int .i64 y.time, .int .i64 y.now, .int .i64 y.long, .int .u64 y.bal.c, .int .i64 y.bal.n, .string y.text] 33))
        have hab : b < wA.heap.size := HA.out.blk.lt
        have hal : ∀ g, l.ownBlock = some g → g < wA.heap.size := HA.out.ownlt
        obtain ⟨ka, hka⟩ : ∃ ka, ka = wA.heap.size := ⟨_, rfl⟩
        go_wp2_with fail
        have hst : wA.heap.size < (wA.alloc (.cells #[.int .i64 y.kind, .int .i64 y.frm, .int .i64 y.slot, .int .i64 y.time, .int .i64 y.now, .int .i64 y.long, .int .u64 y.bal.c, .int .i64 y.bal.n, .string y.text] 33)).heap.size := by simp
        clear HA HUA
        generalize (wA.alloc (.cells #[.int .i64 y.kind, .int .i64 y.frm, .int .i64 y.slot, .int .i64 y.time, .int .i64 y.now, .int .i64 y.long, .int .u64 y.bal.c, .int .i64 y.bal.n, .string y.text] 33)) = wB at *
        rw [← hka] at hY hab hst hal ⊢
        clear hka wA
        -- Promised
        refine (promised_any _ b l d wB HA1.out).mono ?_
        rintro e wC ⟨rfl, huC⟩
        have HY := hd (hY.upd huC (by simp))
        have HAC := hd (HA1.out.later huC)
        have HUC := hd (HUA1.out.trans huC)
        have hsC := huC.size
        clear hY huC HA1 HUA1
        unfold BalS.val
        have HBC := hd (Blk.new wC #[.int .u64 d.bal.c, .int .i64 d.bal.n] 35)
        have HAD := hd (HAC.out.alloc (.cells #[.int .u64 d.bal.c, .int .i64 d.bal.n] 35))
        have HYD := hd (HY.out.alloc (.cells #[.int .u64 d.bal.c, .int .i64 d.bal.n] 35))
        have HUD := hd (HUC.out.alloc (.cells #[.int .u64 d.bal.c, .int .i64 d.bal.n] 35))
        have hsD : wC.heap.size < (wC.alloc (.cells #[.int .u64 d.bal.c, .int .i64 d.bal.n] 35)).heap.size := by simp
        obtain ⟨kw, hkw⟩ : ∃ kw, kw = wC.heap.size := ⟨_, rfl⟩
        go_wp2_with fail
        clear HY HAC HUC
        generalize wC.alloc (.cells #[.int .u64 d.bal.c, .int .i64 d.bal.n] 35) = wD at *
        rw [← hkw] at HBC hsD ⊢
        have hkaw : ka < kw := by omega
        clear hkw hsC wC
        -- Holder
        refine (holder_any _ b l d wD HAD.out hn0 (by omega)).mono ?_
        rintro e wE ⟨rfl, huE⟩
        have hYE := HYD.out.upd huE (by simp)
        have hWE := HBC.out.upd huE (by simp)
        have HAE := hd (HAD.out.later huE)
        have HUE := hd (HUD.out.trans huE)
        have hsE := huE.size
        have hYc := hYE.cell
        have HYE := hd hYE
        have HWE := hd hWE
        have hkaE := hYE.lt
        have hkwE := hWE.lt
        clear huE HAD HYD HUD HBC hYE hWE
        have e2 := two_new wE (msgC { frm := y.frm, bal := y.bal, slot := y.slot, time := y.time, text := y.text } (.slice none 0 0)) (msgC {} (.slice none 0 0)) 41
        simp only [msgC] at e2
        obtain ⟨m, hm⟩ : ∃ m : MsgS, m = { frm := y.frm, bal := y.bal, slot := y.slot, time := y.time, text := y.text } := ⟨_, rfl⟩
        have HM := hd hm
        have hmv : m.val (.slice none 0 0) = .agg #[.int .i64 0, .int .i64 y.frm, .int .i64 0, .int .i64 0, .int .u64 y.bal.c, .int .i64 y.bal.n, .int .i64 y.slot, .int .i64 y.time, .bool false, .string y.text, .slice none 0 0] := by rw [hm]; rfl
        have hmo : m.okM := by
          have e1 : m.slot = y.slot := by rw [hm]
          have e2 : m.frm = y.frm := by rw [hm]
          have e3 : m.text = y.text := by rw [hm]
          exact ⟨by omega, by omega, ⟨by omega, by omega⟩, by rw [e3]; omega⟩
        have HMO := hd hmo
        have hmf : m.frm = y.frm := by rw [hm]
        have hmb : m.bal = y.bal := by rw [hm]
        have HMF := hd hmf
        have HMB := hd hmb
        clear hm hmo hmf hmb
        go_upto_block 2 with fail
        obtain ⟨W, hW, hu, hM, hG, hsW⟩ := e2
        rw [hW]
        clear hW
        have hYc := (HYE.out.upd hu (by simp)).cell
        have hMc := hM.cell
        go_cut [12] from 21 to 159 (fun s12 wx => s12 = .pointer (some ⟨wE.heap.size + 1, 0, none⟩) ∧ ∃ (d' : AccS) (m' : MsgS) (l' : Value), d'.fine ∧ KeepsOk d d' m m' y.now ∧ Upd [] w wx ∧ AccAt w.heap.size wx b l' d' ∧
          Blk wx ka #[.int .i64 y.kind, .int .i64 y.frm, .int .i64 y.slot, .int .i64 y.time, .int .i64 y.now, .int .i64 y.long, .int .u64 y.bal.c, .int .i64 y.bal.n, .string y.text] 33 ∧
          Blk wx kw #[.int .u64 d.bal.c, .int .i64 d.bal.n] 35 ∧
          Blk wx wE.heap.size #[.int .i64 0, .int .i64 y.frm, .int .i64 0, .int .i64 0, .int .u64 y.bal.c, .int .i64 y.bal.n, .int .i64 y.slot, .int .i64 y.time, .bool false, .string y.text, .slice none 0 0] 41 ∧
          wx.cell? ⟨wE.heap.size + 1, 0, none⟩ = some (.int .i64 m'.kind))
        case' first =>
          have hkind : y.kind = 0 ∨ y.kind = 1 ∨ y.kind = 2 ∨ (¬ y.kind = 0 ∧ ¬ y.kind = 1 ∧ ¬ y.kind = 2) := by omega
          rcases hkind with hk | hk | hk | ⟨hk0, hk1, hk2⟩
        -- BRANCHES
          case' inl =>
            have hpp := prepare_any w.heap.size b l d m none 0 0 y.now
            rw [hmv] at hpp
            have HPP := hd hpp
            clear hpp hmv
            go_wp2_with fail
            refine (HPP.out W (HAE.out.later hu) HF.out HMO.out.slotIn HMO.out.frm ⟨by omega, by omega⟩).mono ?_
            rintro e W' ⟨v', rfl, hu', ha', ho'⟩
            clear HPP
            obtain ⟨xa, xc, rfl, -⟩ := own_open ho'
            clear ho'
            have hup : WrUp b l l W W' := ⟨hu'.mono (by simp), fun g hg => .inl hg⟩
            have KO := hd (keeps_prepare d m y.now HF.out)
            have FO := hd (prepare_fine d m y.now HF.out)
            generalize d.prepare m y.now = r at *
            obtain ⟨d', m', ls, ch⟩ := r
            simp only at ha' KO FO ⊢
            unfold MsgS.val msgC
            have hsW' := hup.upd.size
            have hnot : ∀ q, ka ≤ q → q ∉ b :: l.ownBlock.toList := fun q hq hm => by
              rcases List.mem_cons.1 hm with h | h
              · omega
              · have := hal q (by simpa using h); omega
            have hYf := (HYE.out.upd hu (by simp)).upd hup.upd (hnot ka (by omega))
            have hWf := (HWE.out.upd hu (by simp)).upd hup.upd (hnot kw (by omega))
            have hMf := hM.upd hup.upd (hnot _ (by omega))
            have hGf := hG.upd hup.upd (hnot _ (by omega))
            have hUf : Upd [] w W' := (HUE.out.trans hu).trans' hup.upd (fun q hq => by
              rcases List.mem_cons.1 hq with h | h
              · exact .inr (by omega)
              · exact .inr (own_ge HAE.out.own q (by simpa using h)).1)
            have hgc := hGf.cell
            have hgz := hGf.frozen
            have hlf : ∀ g, l.ownBlock = some g → g ≠ wE.heap.size + 1 := fun g hg => by
              rcases hup.row g hg with h | h
              · have := hal g h; omega
              · omega
            have HYf := hd hYf
            have HWf := hd hWf
            have HMf := hd hMf
            have HGf := hd hGf
            have HUf := hd hUf
            have HAf := hd ha'
            have HLf := hd hlf
            clear hYf hWf hMf hGf hUf ha' hlf hup hM hG hnot hu hYc hMc
            go_wp2_with fail
            have hz := upd_msg W' (wE.heap.size + 1) (.int .i64 m'.kind) (.int .i64 m'.frm) (.int .i64 m'.to) (.int .i64 m'.sub) (.int .u64 m'.bal.c) (.int .i64 m'.bal.n) (.int .i64 m'.slot) (.int .i64 m'.time) (.bool m'.okb) (.string m'.text) (.slice xa ls.length xc)
            have hgk := blk_msg HGf.out (.int .i64 m'.kind) (.int .i64 m'.frm) (.int .i64 m'.to) (.int .i64 m'.sub) (.int .u64 m'.bal.c) (.int .i64 m'.bal.n) (.int .i64 m'.slot) (.int .i64 m'.time) (.bool m'.okb) (.string m'.text) (.slice xa ls.length xc)
            generalize hSS : (((((((((((W'.setCell ⟨wE.heap.size + 1, 0, none⟩ (.int .i64 m'.kind)).setCell ⟨wE.heap.size + 1, 1, none⟩ (.int .i64 m'.frm)).setCell ⟨wE.heap.size + 1, 2, none⟩ (.int .i64 m'.to)).setCell ⟨wE.heap.size + 1, 3, none⟩ (.int .i64 m'.sub)).setCell ⟨wE.heap.size + 1, 4, none⟩ (.int .u64 m'.bal.c)).setCell ⟨wE.heap.size + 1, 5, none⟩ (.int .i64 m'.bal.n)).setCell ⟨wE.heap.size + 1, 6, none⟩ (.int .i64 m'.slot)).setCell ⟨wE.heap.size + 1, 7, none⟩ (.int .i64 m'.time)).setCell ⟨wE.heap.size + 1, 8, none⟩ (.bool m'.okb)).setCell ⟨wE.heap.size + 1, 9, none⟩ (.string m'.text)).setCell ⟨wE.heap.size + 1, 10, none⟩ (.slice xa ls.length xc)) = Wf at *
            clear hSS hgc hgz HGf
            have HY := hd (HYf.out.upd hz (by simp; omega))
            have HW := hd (HWf.out.upd hz (by simp; omega))
            have HMs := hd (HMf.out.upd hz (by simp))
            have HU := hd (HUf.out.trans' hz (by intro q hq; simp at hq; subst hq; exact .inr (by have := HUE.out.size; omega)))
            have HA := hd (HAf.out.upd hz (by simp; omega) (fun g hg => by simpa using HLf.out g hg))
            clear HYf HWf HMf HUf HAf HLf hz
            go_meet
            case rel => exact ⟨rfl, d', m', _, FO.out, KO.out, HU.out, HA.out, HY.out, HW.out, HMs.out, Blk.cell hgk 0⟩
          case' inr.inl =>
            have hpp := accept_any w.heap.size b l d m none 0 0
            rw [hmv] at hpp
            have HPP := hd hpp
            clear hpp hmv
            go_wp2_with fail
            refine (HPP.out W (HAE.out.later hu) HF.out HMO.out.slotIn HMO.out.text (by have := HUE.out.size; have := hu.size; omega)).mono ?_
            rintro e W' ⟨l', rfl, ha', hwu⟩
            clear HPP
            have hup : WrUp b l l' W W' := hwu
            have KO := hd (keeps_accept d m y.now)
            have FO := hd (accept_fine d m HF.out HMO.out)
            generalize d.accept m = r at *
            obtain ⟨d', m', ch⟩ := r
            simp only at ha' KO FO ⊢
            unfold MsgS.val msgC
            have hsW' := hup.upd.size
            have hnot : ∀ q, ka ≤ q → q ∉ b :: l.ownBlock.toList := fun q hq hm => by
              rcases List.mem_cons.1 hm with h | h
              · omega
              · have := hal q (by simpa using h); omega
            have hYf := (HYE.out.upd hu (by simp)).upd hup.upd (hnot ka (by omega))
            have hWf := (HWE.out.upd hu (by simp)).upd hup.upd (hnot kw (by omega))
            have hMf := hM.upd hup.upd (hnot _ (by omega))
            have hGf := hG.upd hup.upd (hnot _ (by omega))
            have hUf : Upd [] w W' := (HUE.out.trans hu).trans' hup.upd (fun q hq => by
              rcases List.mem_cons.1 hq with h | h
              · exact .inr (by omega)
              · exact .inr (own_ge HAE.out.own q (by simpa using h)).1)
            have hgc := hGf.cell
            have hgz := hGf.frozen
            have hlf : ∀ g, l'.ownBlock = some g → g ≠ wE.heap.size + 1 := fun g hg => by
              rcases hup.row g hg with h | h
              · have := hal g h; omega
              · omega
            have HYf := hd hYf
            have HWf := hd hWf
            have HMf := hd hMf
            have HGf := hd hGf
            have HUf := hd hUf
            have HAf := hd ha'
            have HLf := hd hlf
            clear hYf hWf hMf hGf hUf ha' hlf hup hM hG hnot hu hYc hMc
            go_wp2_with fail
            have hz := upd_msg W' (wE.heap.size + 1) (.int .i64 m'.kind) (.int .i64 m'.frm) (.int .i64 m'.to) (.int .i64 m'.sub) (.int .u64 m'.bal.c) (.int .i64 m'.bal.n) (.int .i64 m'.slot) (.int .i64 m'.time) (.bool m'.okb) (.string m'.text) (.slice none 0 0)
            have hgk := blk_msg HGf.out (.int .i64 m'.kind) (.int .i64 m'.frm) (.int .i64 m'.to) (.int .i64 m'.sub) (.int .u64 m'.bal.c) (.int .i64 m'.bal.n) (.int .i64 m'.slot) (.int .i64 m'.time) (.bool m'.okb) (.string m'.text) (.slice none 0 0)
            generalize hSS : (((((((((((W'.setCell ⟨wE.heap.size + 1, 0, none⟩ (.int .i64 m'.kind)).setCell ⟨wE.heap.size + 1, 1, none⟩ (.int .i64 m'.frm)).setCell ⟨wE.heap.size + 1, 2, none⟩ (.int .i64 m'.to)).setCell ⟨wE.heap.size + 1, 3, none⟩ (.int .i64 m'.sub)).setCell ⟨wE.heap.size + 1, 4, none⟩ (.int .u64 m'.bal.c)).setCell ⟨wE.heap.size + 1, 5, none⟩ (.int .i64 m'.bal.n)).setCell ⟨wE.heap.size + 1, 6, none⟩ (.int .i64 m'.slot)).setCell ⟨wE.heap.size + 1, 7, none⟩ (.int .i64 m'.time)).setCell ⟨wE.heap.size + 1, 8, none⟩ (.bool m'.okb)).setCell ⟨wE.heap.size + 1, 9, none⟩ (.string m'.text)).setCell ⟨wE.heap.size + 1, 10, none⟩ (.slice none 0 0)) = Wf at *
            clear hSS hgc hgz HGf
            have HY := hd (HYf.out.upd hz (by simp; omega))
            have HW := hd (HWf.out.upd hz (by simp; omega))
            have HMs := hd (HMf.out.upd hz (by simp))
            have HU := hd (HUf.out.trans' hz (by intro q hq; simp at hq; subst hq; exact .inr (by have := HUE.out.size; omega)))
            have HA := hd (HAf.out.upd hz (by simp; omega) (fun g hg => by simpa using HLf.out g hg))
            clear HYf HWf HMf HUf HAf HLf hz
            go_meet
            case rel => exact ⟨rfl, d', m', _, FO.out, KO.out, HU.out, HA.out, HY.out, HW.out, HMs.out, Blk.cell hgk 0⟩
          case' inr.inr.inl =>
            have hpp := ask_any w.heap.size b l d m none 0 0 y.now y.long
            rw [hmv] at hpp
            have HPP := hd hpp
            clear hpp hmv
            go_wp2_with fail
            refine (HPP.out W (HAE.out.later hu) HF.out HMO.out.frm ⟨by omega, by omega⟩ ⟨by omega, by omega⟩).mono ?_
            rintro e W' ⟨rfl, hu', ha'⟩
            clear HPP
            have hup : WrUp b l l W W' := ⟨hu'.mono (by simp), fun g hg => .inl hg⟩
            have KO := hd (keeps_ask d m y.now y.long HF.out (by have := HMO.out.frm.1; omega))
            have FO := hd (ask_fine d m y.now y.long HF.out ⟨HMO.out.frm.1, by have := HMF.out; omega⟩ ⟨by omega, by omega⟩ ⟨by omega, by omega⟩)
            generalize d.ask m y.now y.long = r at *
            obtain ⟨d', m', ch⟩ := r
            simp only at ha' KO FO ⊢
            unfold MsgS.val msgC
            have hsW' := hup.upd.size
            have hnot : ∀ q, ka ≤ q → q ∉ b :: l.ownBlock.toList := fun q hq hm => by
              rcases List.mem_cons.1 hm with h | h
              · omega
              · have := hal q (by simpa using h); omega
            have hYf := (HYE.out.upd hu (by simp)).upd hup.upd (hnot ka (by omega))
            have hWf := (HWE.out.upd hu (by simp)).upd hup.upd (hnot kw (by omega))
            have hMf := hM.upd hup.upd (hnot _ (by omega))
            have hGf := hG.upd hup.upd (hnot _ (by omega))
            have hUf : Upd [] w W' := (HUE.out.trans hu).trans' hup.upd (fun q hq => by
              rcases List.mem_cons.1 hq with h | h
              · exact .inr (by omega)
              · exact .inr (own_ge HAE.out.own q (by simpa using h)).1)
            have hgc := hGf.cell
            have hgz := hGf.frozen
            have hlf : ∀ g, l.ownBlock = some g → g ≠ wE.heap.size + 1 := fun g hg => by
              rcases hup.row g hg with h | h
              · have := hal g h; omega
              · omega
            have HYf := hd hYf
            have HWf := hd hWf
            have HMf := hd hMf
            have HGf := hd hGf
            have HUf := hd hUf
            have HAf := hd ha'
            have HLf := hd hlf
            clear hYf hWf hMf hGf hUf ha' hlf hup hM hG hnot hu hYc hMc
            go_wp2_with fail
            have hz := upd_msg W' (wE.heap.size + 1) (.int .i64 m'.kind) (.int .i64 m'.frm) (.int .i64 m'.to) (.int .i64 m'.sub) (.int .u64 m'.bal.c) (.int .i64 m'.bal.n) (.int .i64 m'.slot) (.int .i64 m'.time) (.bool m'.okb) (.string m'.text) (.slice none 0 0)
            have hgk := blk_msg HGf.out (.int .i64 m'.kind) (.int .i64 m'.frm) (.int .i64 m'.to) (.int .i64 m'.sub) (.int .u64 m'.bal.c) (.int .i64 m'.bal.n) (.int .i64 m'.slot) (.int .i64 m'.time) (.bool m'.okb) (.string m'.text) (.slice none 0 0)
            generalize hSS : (((((((((((W'.setCell ⟨wE.heap.size + 1, 0, none⟩ (.int .i64 m'.kind)).setCell ⟨wE.heap.size + 1, 1, none⟩ (.int .i64 m'.frm)).setCell ⟨wE.heap.size + 1, 2, none⟩ (.int .i64 m'.to)).setCell ⟨wE.heap.size + 1, 3, none⟩ (.int .i64 m'.sub)).setCell ⟨wE.heap.size + 1, 4, none⟩ (.int .u64 m'.bal.c)).setCell ⟨wE.heap.size + 1, 5, none⟩ (.int .i64 m'.bal.n)).setCell ⟨wE.heap.size + 1, 6, none⟩ (.int .i64 m'.slot)).setCell ⟨wE.heap.size + 1, 7, none⟩ (.int .i64 m'.time)).setCell ⟨wE.heap.size + 1, 8, none⟩ (.bool m'.okb)).setCell ⟨wE.heap.size + 1, 9, none⟩ (.string m'.text)).setCell ⟨wE.heap.size + 1, 10, none⟩ (.slice none 0 0)) = Wf at *
            clear hSS hgc hgz HGf
            have HY := hd (HYf.out.upd hz (by simp; omega))
            have HW := hd (HWf.out.upd hz (by simp; omega))
            have HMs := hd (HMf.out.upd hz (by simp))
            have HU := hd (HUf.out.trans' hz (by intro q hq; simp at hq; subst hq; exact .inr (by have := HUE.out.size; omega)))
            have HA := hd (HAf.out.upd hz (by simp; omega) (fun g hg => by simpa using HLf.out g hg))
            clear HYf HWf HMf HUf HAf HLf hz
            go_meet
            case rel => exact ⟨rfl, d', m', _, FO.out, KO.out, HU.out, HA.out, HY.out, HW.out, HMs.out, Blk.cell hgk 0⟩
          case' inr.inr.inr =>
            clear hmv
            have KO := hd (keeps_same d m {} y.now (by simp) (by simp) (by simp))
            have HY := hd (HYE.out.upd hu (by simp))
            have HW := hd (HWE.out.upd hu (by simp))
            have HU := hd (HUE.out.trans hu)
            have HA := hd (HAE.out.later hu)
            have HG := hd (hG.cell 0)
            have HMs := hd hM
            clear hu hM hG
            go_wp2_with fail
            go_meet
            case rel => exact ⟨rfl, d, {}, _, HF.out, KO.out, HU.out, HA.out, HY.out, HW.out, HMs.out, HG.out⟩
        -- TAIL
        case rest =>
          clear hmv hYc hMc hu hM hG HUE HAE HYE HWE HMO HM
          obtain ⟨rfl, d', m', l', hfo, hko, huf, haf, hyf, hwf, hmf, hgf⟩ := hcut
          obtain ⟨Wf, hWf⟩ : ∃ Wf, Wf = wc := ⟨_, rfl⟩
          rw [← hWf] at huf haf hyf hwf hmf hgf ⊢
          clear hWf wc
          have FO := hd hfo
          have KO := hd hko
          have HU := hd huf
          have HA := hd haf
          have HY := hd hyf
          have HW := hd hwf
          have HMs := hd hmf
          have HG := hd hgf
          have hkl := hwf.lt
          have hgl := World.block_lt_of_cell? Wf _ hgf
          clear hfo hko huf haf hyf hwf hmf hgf
          have hfn0 := FO.out.node0
          have hfn1 := FO.out.node1
          have hkc : ∀ (q : Later [] Wf) o, q.world.cell? ⟨kw, o, none⟩ = #[.int .u64 d.bal.c, .int .i64 d.bal.n][o]? := fun q => (q.blk HW.out (by simp)).cell
          have HPQ := hd (fun q : Later [] Wf => promised_any _ b _ d' q.world (HA.out.later q.upd))
          go_upto_region 21 with fail
          refine wp_region_later [] (by kernel_rfl) (by kernel_rfl) ?_
          repeat (go_big_quiet_step (first
            | (go_at_call 14; refine later_call (HPQ.out _))
            | (go_at_call 19; refine later_call (bcompare_any d'.bal d.bal _))))
          refine wpQuiet_nil ?_
          intro Wg hug
          have hcb := KO.out.bal
          generalize d'.bal.cmp d.bal = c1 at hcb ⊢
          have hcb' : decide (c1 < 0) = false := decide_eq_false hcb
          have HYg := hd (HY.out.upd hug (by simp))
          have HWg := hd (HW.out.upd hug (by simp))
          have HMg := hd (HMs.out.upd hug (by simp))
          have HGg := hd ((World.cell?_of_block (hug.block _ hgl (by simp))).trans HG.out)
          have hgl2 := Nat.lt_of_lt_of_le hgl hug.size
          have HUg := hd (HU.out.trans hug)
          have HAg := hd (HA.out.later hug)
          clear hkc HPQ HY HW HMs HG HU HA hug
          go_upto_region 23 with fail
          go_cut [107] from 21 to 159 (fun c wx => c = .bool false ∧ Upd [] Wg wx)
          case first =>
            have hkc : ∀ (q : Later [] Wg) o, q.world.cell? ⟨kw, o, none⟩ = #[.int .u64 d.bal.c, .int .i64 d.bal.n][o]? := fun q => (q.blk HWg.out (by simp)).cell
            have hmc : ∀ (q : Later [] Wg) o, q.world.cell? ⟨wE.heap.size, o, none⟩ = #[.int .i64 0, .int .i64 y.frm, .int .i64 0, .int .i64 0, .int .u64 y.bal.c, .int .i64 y.bal.n, .int .i64 y.slot, .int .i64 y.time, .bool false, .string y.text, .slice none 0 0][o]? := fun q => (q.blk HMg.out (by simp)).cell
            have hgc : ∀ (q : Later [] Wg), q.world.cell? ⟨wE.heap.size + 1, 0, none⟩ = some (.int .i64 m'.kind) := fun q => (World.cell?_of_block (q.upd.block _ hgl2 (by simp))).trans HGg.out
            have HPQ := hd (fun q : Later [] Wg => promised_any _ b _ d' q.world (HAg.out.later q.upd))
            by_cases hk4 : m'.kind = 4
            · obtain ⟨hm1, hm2⟩ := KO.out.acc hk4
              rw [HMB.out] at hm1 hm2
              have HPY : Hd (∀ q : Later [] Wg, Calls Try.prog 14 #[.pointer (some ⟨b, 0, none⟩)] q.world fun e w' => e = .returned (.agg #[.int .u64 y.bal.c, .int .i64 y.bal.n]) ∧ Upd [] q.world w') := hd (fun q => by
                have := HPQ.out q
                rw [hm2] at this
                exact this)
              have hcy := bcompare_any y.bal d.bal
              generalize y.bal.cmp d.bal = c2 at hm1 hcy
              have hc2' : decide (c2 < 0) = false := decide_eq_false hm1
              have HCY := hd hcy
              clear hcy HPQ hm2
              refine wp_region_later [] (by kernel_rfl) (by kernel_rfl) ?_
              repeat (go_big_quiet_step (first
                | (go_at_call 14; refine later_call (HPY.out _))
                | (go_at_call 19; refine later_call (HCY.out _))))
              refine wpQuiet_nil ?_
              intro Wh huh
              go_wp2_with fail
              go_meet
              case rel => exact ⟨rfl, huh⟩
            · have hk4' : (m'.kind == 4) = false := by simpa using hk4
              refine wp_region_later [] (by kernel_rfl) (by kernel_rfl) ?_
              repeat (go_big_quiet_step (fail))
              refine wpQuiet_nil ?_
              intro Wh huh
              go_wp2_with fail
              go_meet
              case rel => exact ⟨rfl, huh⟩
          case rest =>
            obtain ⟨rfl, hcu⟩ := hcut
            have HYh := hd (HYg.out.upd hcu (by simp))
            have HGh := hd ((World.cell?_of_block (hcu.block _ hgl2 (by simp))).trans HGg.out)
            have HUh := hd (HUg.out.trans hcu)
            have HAh := hd (HAg.out.later hcu)
            clear HYg HWg HMg HGg HUg HAg hcu
            have hgr := KO.out.grant
            have hho := KO.out.hold
            rw [HMF.out] at hgr
            have HGR := hd hgr
            have HHO := hd hho
            clear hgr hho
            have hyc := HYh.out.cell
            have hgc : wc.cell? ⟨wE.heap.size + 1, 0, none⟩ = some (.int .i64 m'.kind) := HGh.out
            go_upto_region 25 with fail
            go_cut [9, 131] from 21 to 159 (fun s9 c wx => s9 = .int .i64 (d.node - 1) ∧ c = .bool false ∧ wx = wc)
            case first =>
              go_wp2_with fail
              all_goals
                have hgr := HGR.out
                go_meet
                case rel => first | exact ⟨rfl, rfl, rfl⟩ | exact ⟨congrArg (Value.int .i64) (by omega), rfl, rfl⟩ | (exfalso; omega) | (refine ⟨congrArg (Value.int .i64) (by omega), ?_, rfl⟩; congr 1; simp; omega)
            case rest =>
              obtain ⟨rfl, rfl, rfl⟩ := hcut
              have hho := holder_any _ b _ d' wc HAh.out hfn0 (by omega)
              have HHC := hd hho
              clear hho hgc HGh HGR
              go_wp2_with fail
              refine HHC.out.mono ?_
              rintro e wi ⟨rfl, hui⟩
              have HYi := hd (HYh.out.upd hui (by simp))
              have HUi := hd (HUh.out.trans hui)
              have HAi := hd (HAh.out.later hui)
              have hyi := HYi.out.cell
              clear HHC hyc HYh HUh HAh hui
              go_upto_region 28 with fail
              go_cut [9, 13, 159] from 21 to 159 (fun s9 s13 c wx => s9 = .int .i64 (d.node - 1) ∧ s13 = .int .i64 (d'.node - 1) ∧ c = .bool false ∧ wx = wi)
              case first =>
                go_wp2_with fail
                all_goals
                  have hho := HHO.out
                  go_meet
                  case rel => first | exact ⟨rfl, rfl, rfl, rfl⟩ | exact ⟨congrArg (Value.int .i64) (by omega), congrArg (Value.int .i64) (by omega), rfl, rfl⟩ | (exfalso; omega) | (refine ⟨congrArg (Value.int .i64) (by omega), congrArg (Value.int .i64) (by omega), ?_, rfl⟩; congr 1; simp; omega)
              case rest =>
                obtain ⟨rfl, rfl, rfl, rfl⟩ := hcut
                go_wp2_with fail
                go_roundw
                case rel => exact ⟨t + 1, d', _, by go_num, by omega, FO.out, HUi.out, HAi.out⟩
                case measure => simp [intOf]; omega
      · go_wp2_with fail
        go_ret
        exact ⟨rfl, HU.out⟩
    · go_wp2_with fail
      go_ret
      exact ⟨rfl, HU.out⟩
end Go.Proofs.Ytfhmdeamhmjddaa
