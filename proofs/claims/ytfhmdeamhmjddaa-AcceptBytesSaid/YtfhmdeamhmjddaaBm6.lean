/-
  accept.Acceptor.Accept, walked whole. Conditions: an acceptor whose numbers and entries are as they may be.
-/
import Derived.Test.YtfhmdeamhmjddaaBm5
set_option linter.unusedVariables false
set_option linter.unusedSimpArgs false
set_option maxRecDepth 100000
namespace Go.Proofs.Ytfhmdeamhmjddaa
open Go.RowKit

theorem entCells_set (l : List EntS) (x : EntS) (i : Nat) : entCells (l.set i x) = ((((entCells l).set (i * 4) (.int .i64 x.slot)).set (i * 4 + 1) (.int .u64 x.bal.c)).set (i * 4 + 2) (.int .i64 x.bal.n)).set (i * 4 + 3) (.string x.text) := by
  induction l generalizing i with
  | nil => simp [entCells]
  | cons a t ih =>
    cases i with
    | zero => simp [entCells, EntS.cells]
    | succ i =>
      have e : ∀ (y : EntS) (q : List EntS), entCells (y :: q) = y.cells ++ entCells q := fun _ _ => rfl
      rw [List.set_cons_succ, e, e, ih i, show (i + 1) * 4 = i * 4 + 4 by omega]
      simp [EntS.cells]
theorem fin_set_at {B b g k cap i : Nat} {d0 : AccS} {x : EntS} {W5 W8 : World} (h5 : AccAt B W5 b (.slice (some ⟨g, 0, none⟩) d0.list.length cap) d0) (hi : i < d0.list.length) (hgb : g ≠ b) (hkb : k ≠ b) (hkg : k ≠ g)
    (hx : Upd [k] ((((W5.setCell ⟨g, i * 4, none⟩ (.int .i64 x.slot)).setCell ⟨g, i * 4 + 1, none⟩ (.int .u64 x.bal.c)).setCell ⟨g, i * 4 + 2, none⟩ (.int .i64 x.bal.n)).setCell ⟨g, i * 4 + 3, none⟩ (.string x.text)) W8) :
    AccAt B W8 b (.slice (some ⟨g, 0, none⟩) d0.list.length cap) { d0 with list := d0.list.set i x } := by
  have h1 := own_set (own_set (own_set (own_set h5.own (i * 4) (by omega) (.int .i64 x.slot)) (i * 4 + 1) (by omega) (.int .u64 x.bal.c)) (i * 4 + 2) (by omega) (.int .i64 x.bal.n)) (i * 4 + 3) (by omega) (.string x.text)
  rw [← entCells_set] at h1
  have hb : Blk ((((W5.setCell ⟨g, i * 4, none⟩ (.int .i64 x.slot)).setCell ⟨g, i * 4 + 1, none⟩ (.int .u64 x.bal.c)).setCell ⟨g, i * 4 + 2, none⟩ (.int .i64 x.bal.n)).setCell ⟨g, i * 4 + 3, none⟩ (.string x.text)) b (d0.cells (.slice (some ⟨g, 0, none⟩) d0.list.length cap)) 76 :=
    (((h5.blk.set_other (Ne.symm hgb) _).set_other (Ne.symm hgb) _).set_other (Ne.symm hgb) _).set_other (Ne.symm hgb) _
  refine ⟨hb.upd hx (by simpa using Ne.symm hkb), ?_⟩
  have h2 := own_upd h1 hx (fun q hq => by simp only [Value.ownBlock, Option.some.injEq] at hq; subst hq; simpa using Ne.symm hkg)
  simpa using h2
theorem fin_set_up {b g k n cap i : Nat} {w W5 W8 : World} {v0 v1 v2 v3 : Value} (hU5 : Upd [b] w W5) (hk : w.heap.size ≤ k)
    (hx : Upd [k] ((((W5.setCell ⟨g, i * 4, none⟩ v0).setCell ⟨g, i * 4 + 1, none⟩ v1).setCell ⟨g, i * 4 + 2, none⟩ v2).setCell ⟨g, i * 4 + 3, none⟩ v3) W8) :
    WrUp b (.slice (some ⟨g, 0, none⟩) n cap) (.slice (some ⟨g, 0, none⟩) n cap) w W8 := by
  have h0 : Upd [b, g] w W5 := hU5.mono (by simp)
  have h1 := ((((h0.setCell (p := ⟨g, i * 4, none⟩) (by simp) v0).setCell (p := ⟨g, i * 4 + 1, none⟩) (by simp) v1).setCell (p := ⟨g, i * 4 + 2, none⟩) (by simp) v2).setCell (p := ⟨g, i * 4 + 3, none⟩) (by simp) v3)
  exact ⟨(h1.trans' hx (by simp; omega)).mono (by simp [Value.ownBlock]), fun q hq => .inl hq⟩
theorem toList_ne {a b : ByteArray} (h : ¬ a = b) : (a.toList == b.toList) = false := by
  rw [Bool.eq_false_iff]
  intro e
  rw [beq_iff_eq, ByteArray.toList_eq, ByteArray.toList_eq] at e
  exact h (ByteArray.ext (Array.toList_inj.1 e))
theorem aheadOf_spec (l : List EntS) (n : Int) : (∀ t (ht : t < l.length), t < aheadOf l n → l[t].slot < n) ∧ (∀ h : aheadOf l n < l.length, n ≤ l[aheadOf l n].slot) := by
  unfold aheadOf
  induction l with
  | nil => exact ⟨fun t ht => by simp at ht, fun h => by simp at h⟩
  | cons a t ih =>
    by_cases ha : a.slot < n
    · have e : List.takeWhile (fun e : EntS => decide (e.slot < n)) (a :: t) = a :: List.takeWhile (fun e : EntS => decide (e.slot < n)) t := List.takeWhile_cons_of_pos (by simpa using ha)
      rw [e]
      refine ⟨fun q hq h => ?_, fun h => ?_⟩
      · cases q with
        | zero => exact ha
        | succ q => exact ih.1 q (by simpa using hq) (by simpa using h)
      · simp only [List.length_cons] at h ⊢
        exact ih.2 (by omega)
    · have e : List.takeWhile (fun e : EntS => decide (e.slot < n)) (a :: t) = [] := List.takeWhile_cons_of_neg (by simpa using ha)
      rw [e]
      exact ⟨fun q hq h => by simp at h, fun h => by simp only [List.length_nil, List.getElem_cons_zero]; omega⟩
theorem there_at (l : List EntS) (n : Int) (hs : SortedE l) (h : hasSlot l n = true) : ∃ h : aheadOf l n < l.length, l[aheadOf l n].slot = n := by
  obtain ⟨h1, h2⟩ := aheadOf_spec l n
  simp only [hasSlot, List.any_eq_true, beq_iff_eq] at h
  obtain ⟨e, he, rfl⟩ := h
  obtain ⟨t, ht, rfl⟩ := List.getElem_of_mem he
  have ht1 : ¬ t < aheadOf l l[t].slot := fun h => by have := h1 t ht h; omega
  have hkl : aheadOf l l[t].slot < l.length := by omega
  refine ⟨hkl, ?_⟩
  generalize aheadOf l l[t].slot = k at *
  rcases Nat.lt_or_ge k t with hk | hk
  · have h3 := List.pairwise_iff_getElem.1 hs.order k t hkl ht hk
    have := h2 hkl
    omega
  · obtain rfl : t = k := by omega
    rfl
set_option maxHeartbeats 4000000 in
theorem accept_there_any (B b : Nat) (l : Value) (d : AccS) (m : MsgS) (ma : Option Addr) (mn mc : Nat) (w : World) (h : AccAt B w b l d) (hf : d.fine) (hm : SlotIn m.slot) (ht : m.text.size ≤ 1099511627776) (hl : d.low m.bal = false) (hB : B ≤ w.heap.size) (hab : d.base < m.slot) (hth : hasSlot d.list m.slot = true) :
    Calls Try.prog 17 #[.pointer (some ⟨b, 0, none⟩), m.val (.slice ma mn mc)] w fun e w' =>
      ∃ l', e = .returned (.tuple #[(d.acceptOn m).2.1.val (.slice none 0 0), .bool (d.acceptOn m).2.2]) ∧ AccAt B w' b l' (d.acceptOn m).1 ∧ WrUp b l l' w w' := by
  have hlt := h.blk.lt
  have hol := h.ownlt
  obtain ⟨a, cap, hlv, hnc, hcm, hac⟩ := own_open2 h.own
  have HOL := hd hol
  have HAC := hd hac
  have HLV := hd hlv
  have HF := hd hf
  have HS := hd hm
  have e2 := two_new w (msgC m (.slice ma mn mc)) (msgC {} (.slice none 0 0)) 41
  have hlo := low_any B b l d m.bal
  have hpr := promise_any B b l d m.bal
  rw [show m.bal.val = .agg #[.int .u64 m.bal.c, .int .i64 m.bal.n] from rfl] at hlo hpr
  simp only [msgC] at e2
  rw [show m.val (.slice ma mn mc) = .agg #[.int .i64 m.kind, .int .i64 m.frm, .int .i64 m.to, .int .i64 m.sub, .int .u64 m.bal.c, .int .i64 m.bal.n, .int .i64 m.slot, .int .i64 m.time, .bool m.okb, .string m.text, .slice ma mn mc] from rfl]
  have HL := hd hlo
  have HPR := hd hpr
  obtain ⟨hm0, hm1⟩ := hm
  have hlen := hf.sorted.len
  have hb0 := hf.base0
  have hb1 := hf.base1
  clear hlo hpr hf hol hac hlv hcm
  go_enter Try.func17, Try.ntmps17
  go_wp2_with fail
  obtain ⟨W, hW, hu, hA, hR, hsz⟩ := e2
  rw [hW]
  have H := hd (h.later hu)
  have HU := hd hu
  clear hW hu h
  refine (HL.out W H.out).mono ?_
  rintro e W1 ⟨rfl, hu1⟩
  rw [hl]
  have hr := hR.upd hu1 (by simp)
  have ha := hA.upd hu1 (by simp)
  have H1 := hd (H.out.later hu1)
  have HU1 := hd (HU.out.trans hu1)
  have hs1 := hu1.size
  clear hu1 HL hA hR H HU
  have hac := ha.cell
  have hfd := find_any B b l d m.slot W1 H1.out HF.out.sorted HS.out
  have HFD := hd hfd
  clear hfd
  go_wp2_with fail
  refine HFD.out.mono ?_
  rintro e W2 ⟨rfl, hu2⟩
  clear HFD hac
  have HR := hd (hr.upd hu2 (by simp))
  have HA := hd (ha.upd hu2 (by simp))
  have H2 := hd (H1.out.later hu2)
  have HU2 := hd (HU1.out.trans hu2)
  have hs2 := hu2.size
  clear hu2 hr ha H1 HU1
  have hlv := HLV.out
  subst hlv
  clear HLV
  have hac := HA.out.cell
  have hcc := H2.out.blk.cell
  simp only [AccS.cells] at hcc
  have hin := aheadOf_le d.list m.slot
  generalize hi : aheadOf d.list m.slot = i at *
  go_wp2_with fail
  go_region
  have hab0 := hab
  have hab' : decide (d.base < m.slot) = true := decide_eq_true hab
  have HIL : Hd (∃ h : i < d.list.length, (d.list[i]).slot = m.slot) := hd (by subst hi; exact there_at d.list m.slot HF.out.sorted hth)
  have HPX := hd (fun W => HPR.out W)
  go_wp2_with fail
  refine (HPX.out _ (H2.out.later (by first | exact (Upd.refl _ _).drew | exact Upd.refl _ _))).mono ?_
  rintro e W3 ⟨rfl, hu3, h3⟩
  have HR3 := hd (HR.out.upd (Upd.trans (Upd.refl _ _).drew hu3) (by simp; omega))
  have HA3 := hd (HA.out.upd (Upd.trans (Upd.refl _ _).drew hu3) (by simp; omega))
  have HU3 := hd (((HU2.out.mono (by simp) : Upd [b] w W2).trans (Upd.refl _ _).drew).trans hu3)
  have hs3 : W2.heap.size ≤ W3.heap.size := hu3.size
  have H3 := hd h3
  clear hu3 h3 hac hcc HR HA HPR HPX HU2 H2
  have hac := HA3.out.cell
  generalize hch : (!(d.bal.c == m.bal.c && d.bal.n == m.bal.n)) = ch at *
  have HK : Hd (∀ W, Upd [] W3 W → Calls Try.prog 42 #[.pointer (some ⟨b, 0, none⟩), .string m.text] W fun e w' => e = .returned (.string (d.kept m.text)) ∧ Upd [] W w') := hd (fun W hu => kept_any B b (.slice a d.list.length cap) { d with bal := m.bal } m.text W (H3.out.later hu) (by omega))
  generalize hkt : d.kept m.text = kt at *
  have HKT := hd hkt
  clear hkt
  go_wp2_with fail
  have hlh := HA3.out.lt
  have n1 : ¬ (W3.heap.size = w.heap.size) := by omega
  have n2 : ¬ (w.heap.size = W3.heap.size) := by omega
  go_region_held3 (fun w' => w'.cell? ⟨w.heap.size, 4, none⟩ = some (.int .u64 m.bal.c) ∧ w'.cell? ⟨w.heap.size, 5, none⟩ = some (.int .i64 m.bal.n) ∧ w'.cell? ⟨w.heap.size, 6, none⟩ = some (.int .i64 m.slot) ∧ w'.cell? ⟨w.heap.size, 9, none⟩ = some (.string m.text)) (go_keep)
    (first
      | ((with_reducible refine (HK.out _ (Upd.refl [] W3).drew).mono ?_); rintro e w4 ⟨rfl, hu4⟩; have k1 := (HA3.out.upd ((Upd.refl [] W3).drew.trans hu4) (by simp)).cell; have hs4 : W3.heap.size ≤ w4.heap.size := hu4.size; have HU4 := hd hu4; clear hu4)
      | ((with_reducible refine (HK.out _ ((Upd.refl [] W3).alloc _).drew).mono ?_); rintro e w4 ⟨rfl, hu4⟩; have k1 := (HA3.out.upd ((((Upd.refl [] W3).alloc _).drew).trans hu4) (by simp)).cell; have kb := Blk.upd (Blk.newd W3 _ _ rfl) hu4 (by simp); have k2 := kb.cell; have k3 := kb.frozen; have KB := hd kb; have HU4 := hd hu4; clear hu4 kb))
  all_goals
    first
      | (have hU5 : Upd [] W3 (w4.alloc (.cells #[.int .i64 m.slot, .int .u64 m.bal.c, .int .i64 m.bal.n, .string kt] 85)) := (((Upd.refl [] W3).drew).trans HU4.out).alloc _
         have hX5 : Blk (w4.alloc (.cells #[.int .i64 m.slot, .int .u64 m.bal.c, .int .i64 m.bal.n, .string kt] 85)) w4.heap.size #[.int .i64 m.slot, .int .u64 m.bal.c, .int .i64 m.bal.n, .string kt] 85 := Blk.new _ _ _
         have hge : W3.heap.size ≤ w4.heap.size := hs4
         clear hs4 k1
         generalize w4.alloc (.cells #[.int .i64 m.slot, .int .u64 m.bal.c, .int .i64 m.bal.n, .string kt] 85) = W5 at *
         clear HU4
         generalize w4.heap.size = kx at *)
      | (have hU5 : Upd [] W3 ((((w4.setCell ⟨W3.heap.size, 0, none⟩ (.int .i64 m.slot)).setCell ⟨W3.heap.size, 1, none⟩ (.int .u64 m.bal.c)).setCell ⟨W3.heap.size, 2, none⟩ (.int .i64 m.bal.n)).setCell ⟨W3.heap.size, 3, none⟩ (.string kt)) := (((((((Upd.refl [] W3).alloc _).drew).trans HU4.out).setCell (.inr (Nat.le_refl _)) _).setCell (.inr (Nat.le_refl _)) _).setCell (.inr (Nat.le_refl _)) _).setCell (.inr (Nat.le_refl _)) _
         have hX5 : Blk ((((w4.setCell ⟨W3.heap.size, 0, none⟩ (.int .i64 m.slot)).setCell ⟨W3.heap.size, 1, none⟩ (.int .u64 m.bal.c)).setCell ⟨W3.heap.size, 2, none⟩ (.int .i64 m.bal.n)).setCell ⟨W3.heap.size, 3, none⟩ (.string kt)) W3.heap.size #[.int .i64 m.slot, .int .u64 m.bal.c, .int .i64 m.bal.n, .string kt] 85 := (((KB.out.set 0 _).set 1 _).set 2 _).set 3 _
         obtain ⟨kx, hkx⟩ : ∃ kx, kx = W3.heap.size := ⟨_, rfl⟩
         have hge : W3.heap.size ≤ kx := by omega
         clear k1 k2 k3 KB HU4
         generalize ((((w4.setCell ⟨W3.heap.size, 0, none⟩ (.int .i64 m.slot)).setCell ⟨W3.heap.size, 1, none⟩ (.int .u64 m.bal.c)).setCell ⟨W3.heap.size, 2, none⟩ (.int .i64 m.bal.n)).setCell ⟨W3.heap.size, 3, none⟩ (.string kt)) = W5 at *
         rw [← hkx] at hX5 ⊢
         clear hkx)
  all_goals
    have HR5 := hd (HR3.out.upd hU5 (by simp))
    have HA5 := hd (HA3.out.upd hU5 (by simp))
    have H5 := hd (H3.out.later hU5)
    have HU5 := hd (HU3.out.trans (hU5.mono (by simp)))
    have HX5 := hd hX5
    have hs5 := hU5.size
    have hlx := hX5.lt
    clear hac HR3 HA3 H3 HU3 HK hU5 n1 n2
    have hac := HA5.out.cell
    have hrc := HR5.out.cell
    have hrz := HR5.out.frozen
    have hxc := hX5.cell
    clear hX5
  all_goals
    obtain ⟨hil, hsl⟩ := HIL.out
    have hcc := H5.out.blk.cell
    have hzz := H5.out.blk.frozen
    simp only [AccS.cells] at hcc
    have hown : W5.ownsRow B 85 4 (.slice a d.list.length cap) d.list.length (entCells d.list) := H5.out.own
    obtain ⟨g, cap', hga, hgB, hgl, hgc, hgx, hgz⟩ := own_cases hown (show 0 < d.list.length by omega)
    clear hown
    simp only [Value.slice.injEq] at hga
    obtain ⟨rfl, -, rfl⟩ := hga
    have g0 : W5.cell? ⟨g, i * 4, none⟩ = some (.int .i64 (d.list[i]).slot) := by rw [hgx _ (by omega)]; exact entCells_get d.list i hil 0 (by omega)
    have g1 : W5.cell? ⟨g, i * 4 + 1, none⟩ = some (.int .u64 (d.list[i]).bal.c) := by rw [hgx _ (by omega)]; exact entCells_get d.list i hil 1 (by omega)
    have g2 : W5.cell? ⟨g, i * 4 + 2, none⟩ = some (.int .i64 (d.list[i]).bal.n) := by rw [hgx _ (by omega)]; exact entCells_get d.list i hil 2 (by omega)
    have g3 : W5.cell? ⟨g, i * 4 + 3, none⟩ = some (.string (d.list[i]).text) := by rw [hgx _ (by omega)]; exact entCells_get d.list i hil 3 (by omega)
    rw [hsl] at g0
    have HGE := hd (show ∀ x, d.list.getD i x = d.list[i] from fun x => by simp [List.getD, List.getElem?_eq_getElem hil])
    have hgw := HOL.out g rfl
    have hgb := H5.out.ne g rfl
    clear hgx
    generalize hel : d.list[i] = el at *
    obtain ⟨es, ⟨ec, en⟩, et⟩ := el
    simp only at g0 g1 g2 g3 hsl
    subst hsl
    have q1 : ¬ (b = w.heap.size) := by omega
    have q2 : ¬ (w.heap.size = b) := by omega
    have q3 : ¬ (b = w.heap.size + 1) := by omega
    have q4 : ¬ (w.heap.size + 1 = b) := by omega
    have q5 : ¬ (g = w.heap.size) := by omega
    have q6 : ¬ (w.heap.size = g) := by omega
    have q7 : ¬ (g = w.heap.size + 1) := by omega
    have q8 : ¬ (w.heap.size + 1 = g) := by omega
    have q9 : ¬ (g = b) := hgb
    have q10 : ¬ (b = g) := fun h => hgb h.symm
    have q11 : ¬ (g = kx) := by omega
    have q12 : ¬ (kx = g) := by omega
    have hil' : (i : Int) < (d.list.length : Int) := by omega
    have hcmp : (ec = m.bal.c ∧ en = m.bal.n ∧ et = kt) ∨ ((¬ ec = m.bal.c ∨ (ec = m.bal.c ∧ ¬ en = m.bal.n) ∨ (ec = m.bal.c ∧ en = m.bal.n ∧ ¬ et = kt))) := by
      by_cases h1 : ec = m.bal.c <;> by_cases h2 : en = m.bal.n <;> by_cases h3 : et = kt <;> simp [h1, h2, h3]
    rcases hcmp with ⟨hc1, hc2, hc3⟩ | hcmp
    · subst hc1 hc2 hc3
      go_wp2_with fail
      go_region
      go_wp2_with fail
      refine bodyPost_ret (v := .tuple #[.agg #[.int .i64 4, .int .i64 0, .int .i64 0, .int .i64 0, .int .u64 m.bal.c, .int .i64 m.bal.n, .int .i64 m.slot, .int .i64 0, .bool false, .string ⟨#[]⟩, .slice none 0 0], .bool ch]) (by simp [results, Try.results17, go_sem, hrc]) rfl ?_
      have hr : d.acceptOn m = ({ d with bal := m.bal }, { kind := 4, bal := m.bal, slot := m.slot }, ch) := by
        unfold AccS.acceptOn; simp only; rw [if_pos hab0, if_pos hth, hi, HGE.out, if_pos (by simp [EntS.same, HKT.out]), hch]
      rw [hr]
      have hx := Upd.refl [w.heap.size + 1] W5
      refine ⟨_, rfl, ?_, ⟨?_, fun g hg => .inl hg⟩⟩
      · exact fin_at (k := w.heap.size + 1) (n := 0) H5.out (by omega) (fun g hg => by have := HOL.out g hg; omega) (by repeat (first | with_reducible exact hx | with_reducible exact Upd.refl _ _ | with_reducible refine Upd.alloc ?_ _ | with_reducible refine Upd.drew ?_ | with_reducible refine Upd.setCell ?_ (by first | (simp; done) | (simp; omega)) _))
      · exact fin_upd (k := w.heap.size + 1) (HU5.out.mono (by simp)) (by omega) (by repeat (first | with_reducible exact hx | with_reducible exact Upd.refl _ _ | with_reducible refine Upd.alloc ?_ _ | with_reducible refine Upd.drew ?_ | with_reducible refine Upd.setCell ?_ (by first | (simp; done) | (simp; omega)) _))
    · rcases hcmp with hc1 | ⟨hc1, hc2⟩ | ⟨hc1, hc2, hc3⟩
      all_goals
        try have hct := toList_ne hc3
        go_wp2_with fail
        go_region
        go_wp2_with fail
        go_region
        go_wp2_with fail
        refine bodyPost_ret (v := .tuple #[.agg #[.int .i64 4, .int .i64 0, .int .i64 0, .int .i64 0, .int .u64 m.bal.c, .int .i64 m.bal.n, .int .i64 m.slot, .int .i64 0, .bool false, .string ⟨#[]⟩, .slice none 0 0], .bool true]) (by simp [results, Try.results17, go_sem, hrc]) rfl ?_
        have hr : d.acceptOn m = ({ d with bal := m.bal, list := d.list.set i ⟨m.slot, m.bal, kt⟩ }, { kind := 4, bal := m.bal, slot := m.slot }, true) := by
          unfold AccS.acceptOn; simp only; rw [if_pos hab0, if_pos hth, hi, HGE.out, HKT.out, if_neg (by simp [EntS.same, *])]
        rw [hr]
        have hz := (upd_msg ((((W5.setCell ⟨g, i * 4, none⟩ (.int .i64 m.slot)).setCell ⟨g, i * 4 + 1, none⟩ (.int .u64 m.bal.c)).setCell ⟨g, i * 4 + 2, none⟩ (.int .i64 m.bal.n)).setCell ⟨g, i * 4 + 3, none⟩ (.string kt)) (w.heap.size + 1) (.int .i64 4) (.int .i64 0) (.int .i64 0) (.int .i64 0) (.int .u64 m.bal.c) (.int .i64 m.bal.n) (.int .i64 m.slot) (.int .i64 0) (.bool false) (.string ⟨#[]⟩) (.slice none 0 0)).drew.drew
        exact ⟨_, rfl, fin_set_at (d0 := { d with bal := m.bal }) (x := ⟨m.slot, m.bal, kt⟩) H5.out hil hgb (by omega) (by omega) hz, fin_set_up (k := w.heap.size + 1) HU5.out (by omega) hz⟩

end Go.Proofs.Ytfhmdeamhmjddaa

/-
  accept.Acceptor.Accept, its one contract. Conditions: an acceptor whose numbers and entries are as they may be.
-/
set_option linter.unusedVariables false
set_option linter.unusedSimpArgs false
set_option maxRecDepth 100000
namespace Go.Proofs.Ytfhmdeamhmjddaa
open Go.RowKit

theorem accept_any (B b : Nat) (l : Value) (d : AccS) (m : MsgS) (ma : Option Addr) (mn mc : Nat) (w : World) (h : AccAt B w b l d) (hf : d.fine) (hm : SlotIn m.slot) (ht : m.text.size ≤ 1099511627776) (hB : B ≤ w.heap.size) :
    Calls Try.prog 17 #[.pointer (some ⟨b, 0, none⟩), m.val (.slice ma mn mc)] w fun e w' =>
      ∃ l', e = .returned (.tuple #[(d.accept m).2.1.val (.slice none 0 0), .bool (d.accept m).2.2]) ∧ AccAt B w' b l' (d.accept m).1 ∧ WrUp b l l' w w' := by
  cases hl : d.low m.bal
  case true =>
    have hr : d.accept m = (d, { kind := 5, bal := d.bal }, false) := by unfold AccS.accept; rw [if_pos hl]
    rw [hr]
    exact (accept_low_any B b l d m ma mn mc w h hl).mono fun e w' ⟨he, hu⟩ => ⟨l, he, h.later hu, ⟨hu.mono (by simp), fun g hg => .inl hg⟩⟩
  case false =>
    have hr : d.accept m = d.acceptOn m := by unfold AccS.accept; rw [if_neg (by rw [hl]; simp)]
    rw [hr]
    by_cases hab : d.base < m.slot
    · cases hth : hasSlot d.list m.slot
      case true => exact accept_there_any B b l d m ma mn mc w h hf hm ht hl hB hab hth
      case false =>
        by_cases h64 : 64 ≤ d.list.length
        · exact accept_full_any B b l d m ma mn mc w h hf hm ht hl hB hab hth h64
        · exact accept_new_any B b l d m ma mn mc w h hf hm ht hl hB hab hth h64
    · exact accept_under_any B b l d m ma mn mc w h hf hm ht hl hB hab
end Go.Proofs.Ytfhmdeamhmjddaa

/-
  accept.Acceptor.Ask, walked. Conditions: an acceptor whose numbers are as they may be, times that there may be.
-/
set_option linter.unusedVariables false
set_option linter.unusedSimpArgs false
set_option maxRecDepth 100000
namespace Go.Proofs.Ytfhmdeamhmjddaa
open Go.RowKit

theorem within_any (t : Int) (w : World) (h0 : 0 ≤ t) (h1 : t ≤ 4398046511104) : Calls Try.prog 70 #[.int .i64 t] w fun e w' => e = .returned (.int .i64 (min t 1099511627776)) ∧ w = w' := by
  go_enter Try.func70, Try.ntmps70
  go_wp2
  all_goals
    go_ret
    refine ⟨ret_i ?_, rfl⟩
    simp only [Int.min_def]
    first | rfl | (split <;> omega) | (repeat' split) <;> omega
def laterI (now long : Int) : Int := min (now + long) 1099511627776
theorem later_any (a b : Int) (w : World) (ha : TimeIn a) (hb : TimeIn b) : Calls Try.prog 44 #[.int .i64 a, .int .i64 b] w fun e w' => e = .returned (.int .i64 (laterI a b)) ∧ w = w' := by
  obtain ⟨ha0, ha1⟩ := ha
  obtain ⟨hb0, hb1⟩ := hb
  have H1 := hd (within_any a w ha0 (by omega))
  have H2 := hd (within_any b w hb0 (by omega))
  have H3 := hd (within_any (a + b) w (by omega) (by omega))
  have ea : min a 1099511627776 = a := by omega
  have eb : min b 1099511627776 = b := by omega
  rw [ea] at H1
  rw [eb] at H2
  have HL := hd (show laterI a b = min (a + b) 1099511627776 from rfl)
  go_enter Try.func44, Try.ntmps44
  go_wp2_with (first
    | ((with_reducible refine H1.out.mono ?_); rintro e w' ⟨rfl, rfl⟩)
    | ((with_reducible refine H2.out.mono ?_); rintro e w' ⟨rfl, rfl⟩)
    | ((with_reducible refine H3.out.mono ?_); rintro e w' ⟨rfl, rfl⟩))
  all_goals
    go_ret
    exact ⟨rfl, rfl⟩

/-- What Ask does. -/
def AccS.ask (d : AccS) (m : MsgS) (now long : Int) : AccS × MsgS × Bool :=
  if d.low m.bal = true then (d, { kind := 5, bal := d.bal }, false)
  else if d.others m.frm now = true then (d, { kind := 5, bal := d.bal, time := d.til - now }, false)
  else
    let t := if m.frm + 1 = d.node then max (laterI now long) d.til else laterI now long
    ({ d with bal := m.bal, node := m.frm + 1, til := t }, { kind := 11, bal := m.bal, time := m.time }, !(d.bal.c == m.bal.c && d.bal.n == m.bal.n) || !(m.frm + 1 == d.node && t == d.til))

theorem _root_.Go.World.drewN_upd (w : World) (n : Nat) : Upd [] w (w.drewN n) := by
  induction n with
  | zero => exact Upd.refl _ _
  | succ n ih => exact ih.drew
theorem fin_ask_up {b k : Nat} {w W6 Wq W8 : World} {u v : Value} (hq : Upd [] W6 Wq) (hU : Upd [b] w W6) (hk : w.heap.size ≤ k) (hb : b < w.heap.size) (hx : Upd [k] ((Wq.setCell ⟨b, 5, none⟩ u).setCell ⟨b, 6, none⟩ v) W8) : Upd [b] w W8 :=
  (((hU.trans (hq.mono (by simp))).setCell (p := ⟨b, 5, none⟩) (by simp) u).setCell (p := ⟨b, 6, none⟩) (by simp) v).trans' hx (by simp; omega)
theorem fin_ask_at {B b k : Nat} {l : Value} {d0 : AccS} {n t : Int} {W6 Wq W8 : World} (hq : Upd [] W6 Wq) (h : AccAt B W6 b l d0) (hk : b < k) (hl : ∀ g, l.ownBlock = some g → g < k)
    (hx : Upd [k] ((Wq.setCell ⟨b, 5, none⟩ (.int .i64 n)).setCell ⟨b, 6, none⟩ (.int .i64 t)) W8) : AccAt B W8 b l { d0 with node := n, til := t } := by
  have h1 := h.later hq
  refine ⟨((h1.blk.set 5 _).set 6 _).upd hx (by simp; omega), ?_⟩
  exact own_upd (L := [k]) (own_upd (L := [b]) h1.own (((Upd.refl _ _).setCell (by simp) _).setCell (by simp) _) (fun g hg => by simpa using h1.ne g hg)) hx (fun g hg => by have := hl g hg; simp; omega)

set_option maxHeartbeats 8000000 in
theorem ask_any (B b : Nat) (l : Value) (d : AccS) (m : MsgS) (ma : Option Addr) (mn mc : Nat) (now long : Int) (w : World) (h : AccAt B w b l d) (hf : d.fine) (hfr : TimeIn m.frm) (hnow : TimeIn now) (hlong : TimeIn long) :
    Calls Try.prog 18 #[.pointer (some ⟨b, 0, none⟩), m.val (.slice ma mn mc), .int .i64 now, .int .i64 long] w fun e w' =>
      e = .returned (.tuple #[(d.ask m now long).2.1.val (.slice none 0 0), .bool (d.ask m now long).2.2]) ∧ Upd [b] w w' ∧ AccAt B w' b l (d.ask m now long).1 := by
  have hlt := h.blk.lt
  have hol := hd h.ownlt
  have ht0 := hf.til0
  have ht1 := hf.til1
  have hn0 := hf.node0
  have hn1 := hf.node1
  have e2 := two_new w (msgC m (.slice ma mn mc)) (msgC {} (.slice none 0 0)) 41
  have ho1 := others_any B b l d m.frm now
  have hlo := low_any B b l d m.bal
  have hpr := promise_any B b l d m.bal
  have hrf := refuse_any B b l d
  have hlt1 := later_any now long
  have HLA := hd (fun w => hlt1 w hnow hlong)
  have hlb : 0 ≤ laterI now long ∧ laterI now long ≤ 1099511627776 := by obtain ⟨a, b⟩ := hnow; obtain ⟨c, d⟩ := hlong; unfold laterI; omega
  obtain ⟨hfr0, hfr1⟩ := hfr
  obtain ⟨hw0, hw1⟩ := hnow
  unfold MsgS.val at hrf
  simp only [msgC] at e2 hrf
  rw [show m.bal.val = .agg #[.int .u64 m.bal.c, .int .i64 m.bal.n] from rfl] at hlo hpr
  rw [show m.val (.slice ma mn mc) = .agg #[.int .i64 m.kind, .int .i64 m.frm, .int .i64 m.to, .int .i64 m.sub, .int .u64 m.bal.c, .int .i64 m.bal.n, .int .i64 m.slot, .int .i64 m.time, .bool m.okb, .string m.text, .slice ma mn mc] from rfl]
  have HL := hd hlo
  have HPR := hd hpr
  have HRF := hd hrf
  have HO := hd ho1
  clear hlo hpr hrf ho1 hlt1 hf
  go_enter Try.func18, Try.ntmps18
  go_wp2_with fail
  obtain ⟨W, hW, hu, hA, hR, hsz⟩ := e2
  rw [hW]
  have H := hd (h.later hu)
  have HU := hd hu
  clear hW hu h
  refine (HL.out W H.out).mono ?_
  rintro e W1 ⟨rfl, hu1⟩
  have hr := hR.upd hu1 (by simp)
  have ha := hA.upd hu1 (by simp)
  have H1 := hd (H.out.later hu1)
  have HU1 := hd (HU.out.trans hu1)
  have hs1 := hu1.size
  clear hu1 hA hR HU H HL
  cases hl : d.low m.bal
  case true =>
    have HP := hd (show d.ask m now long = (d, { kind := 5, bal := d.bal }, false) by unfold AccS.ask; rw [if_pos hl])
    go_wp2_with ((with_reducible refine (HRF.out _ _ H1.out).mono ?_); rintro e w' ⟨rfl, hu⟩; have hr2 := hr.upd hu (by simp); have hrc := hr2.cell; have hrz := hr2.frozen; have HR2 := hd hr2; have HU2 := hd hu; clear hu hr2)
    refine bodyPost_ret (v := .tuple #[.agg #[.int .i64 5, .int .i64 0, .int .i64 0, .int .i64 0, .int .u64 d.bal.c, .int .i64 d.bal.n, .int .i64 0, .int .i64 0, .bool false, .string ⟨#[]⟩, .slice none 0 0], .bool false]) (by simp [results, Try.results18, go_sem, hrc]) rfl ?_
    rw [HP.out]
    have hx := Upd.refl [w.heap.size + 1] w'
    refine ⟨rfl, ?_, ?_⟩
    · exact fin_upd (k := w.heap.size + 1) ((HU1.out.trans HU2.out).mono (by simp)) (by omega) (by repeat (first | with_reducible exact hx | with_reducible exact Upd.refl _ _ | with_reducible refine Upd.alloc ?_ _ | with_reducible refine Upd.drew ?_ | with_reducible refine Upd.setCell ?_ (by first | (simp; done) | (simp; omega)) _))
    · exact fin_at (k := w.heap.size + 1) (n := 0) (H1.out.later HU2.out) (by omega) (fun g hg => by have := hol.out g hg; omega) (by repeat (first | with_reducible exact hx | with_reducible exact Upd.refl _ _ | with_reducible refine Upd.alloc ?_ _ | with_reducible refine Upd.drew ?_ | with_reducible refine Upd.setCell ?_ (by first | (simp; done) | (simp; omega)) _))
  case false =>
    have hac := ha.cell
    go_wp2_with fail
    refine (HO.out W1 H1.out (by omega) (by omega) (by omega) (by omega) (by omega) (by omega)).mono ?_
    rintro e w' ⟨rfl, rfl⟩
    cases ho : d.others m.frm now
    case true =>
      have HP := hd (show d.ask m now long = (d, { kind := 5, bal := d.bal, time := d.til - now }, false) by unfold AccS.ask; rw [if_neg (by simp [hl]), if_pos ho])
      go_wp2_with ((with_reducible refine (HRF.out _ _ H1.out).mono ?_); rintro e w' ⟨rfl, hu⟩; have hr2 := hr.upd hu (by simp); have hrc := hr2.cell; have hrz := hr2.frozen; have HR2 := hd hr2; have HU2 := hd hu; clear hu hr2)
      refine bodyPost_ret (v := .tuple #[.agg #[.int .i64 5, .int .i64 0, .int .i64 0, .int .i64 0, .int .u64 d.bal.c, .int .i64 d.bal.n, .int .i64 0, .int .i64 (d.til - now), .bool false, .string ⟨#[]⟩, .slice none 0 0], .bool false]) (by simp [results, Try.results18, go_sem, hrc]) rfl ?_
      rw [HP.out]
      have hx := Upd.refl [w.heap.size + 1] w'
      refine ⟨rfl, ?_, ?_⟩
      · exact fin_upd (k := w.heap.size + 1) ((HU1.out.trans HU2.out).mono (by simp)) (by omega) (by repeat (first | with_reducible exact hx | with_reducible exact Upd.refl _ _ | with_reducible refine Upd.alloc ?_ _ | with_reducible refine Upd.drew ?_ | with_reducible refine Upd.setCell ?_ (by first | (simp; done) | (simp; omega)) _))
      · exact fin_at (k := w.heap.size + 1) (n := 0) (H1.out.later HU2.out) (by omega) (fun g hg => by have := hol.out g hg; omega) (by repeat (first | with_reducible exact hx | with_reducible exact Upd.refl _ _ | with_reducible refine Upd.alloc ?_ _ | with_reducible refine Upd.drew ?_ | with_reducible refine Upd.setCell ?_ (by first | (simp; done) | (simp; omega)) _))
    case false =>
      go_wp2_with fail
      refine (HPR.out W1 H1.out).mono ?_
      rintro e W2 ⟨rfl, hu2, h2⟩
      have hr2 := hr.upd hu2 (by simp; omega)
      have ha2 := ha.upd hu2 (by simp; omega)
      have HU2 := hd ((HU1.out.mono (by simp) : Upd [b] w W1).trans hu2)
      have hs2 := hu2.size
      clear hac hr ha HPR HRF HO hu2
      generalize hch : (!(d.bal.c == m.bal.c && d.bal.n == m.bal.n)) = ch at *
      have hac := ha2.cell
      have hcc := h2.blk.cell
      have hzz := h2.blk.frozen
      have hrc := hr2.cell
      have hrz := hr2.frozen
      simp only [AccS.cells] at hcc
      have HR2 := hd hr2
      have HA2 := hd ha2
      have H2 := hd h2
      clear hr2 ha2 h2
      have q1 : ¬ (b = w.heap.size) := by omega
      have q2 : ¬ (w.heap.size = b) := by omega
      have q3 : ¬ (b = w.heap.size + 1) := by omega
      have q4 : ¬ (w.heap.size + 1 = b) := by omega
      have hls : w.heap.size + 2 ≤ W2.heap.size := by omega
      have hbl : b < W2.heap.size := by omega
      have hhl : w.heap.size < W2.heap.size := by omega
      generalize hLL : laterI now long = LL at *
      obtain ⟨hl0, hl1⟩ := hlb
      have hwr : IntKind.i64.wrap (m.frm + 1) = m.frm + 1 := by rw [IntKind.wrap_i64]; omega
      go_wp2_with fail
      obtain ⟨nd, hnd⟩ : ∃ nd, nd = m.frm + 1 := ⟨_, rfl⟩
      replace hwr : IntKind.i64.wrap (m.frm + 1) = nd := by rw [hwr, hnd]
      have HND := hd hnd
      clear hnd
      have n1 : ¬ (W2.heap.size = w.heap.size) := by omega
      have n2 : ¬ (w.heap.size = W2.heap.size) := by omega
      go_region_held3 (fun w' => w'.cell? ⟨w.heap.size, 1, none⟩ = some (.int .i64 m.frm)) (go_keep) (first | ((with_reducible refine (HLA.out _).mono ?_); rintro e w' ⟨rfl, rfl⟩))
      all_goals clear n1 n2
      all_goals
        have hX5 : Blk ((W2.alloc (.cells #[.int .i64 nd, .int .i64 LL] 74)).drew) W2.heap.size #[.int .i64 nd, .int .i64 LL] 74 := Blk.newd _ _ _ rfl
        have hU5 : Upd [] W2 ((W2.alloc (.cells #[.int .i64 nd, .int .i64 LL] 74)).drew) := ((Upd.refl _ _).alloc _).drew
        generalize ((W2.alloc (.cells #[.int .i64 nd, .int .i64 LL] 74)).drew) = W5 at *
        obtain ⟨gk, hgk⟩ : ∃ gk, gk = W2.heap.size := ⟨_, rfl⟩
        rw [← hgk] at hX5 ⊢
        have hge : W2.heap.size ≤ gk := by omega
        clear hgk
        have HR5 := hd (HR2.out.upd hU5 (by simp))
        have HA5 := hd (HA2.out.upd hU5 (by simp))
        have H5 := hd (H2.out.later hU5)
        have HU5 := hd (HU2.out.trans (hU5.mono (by simp)))
        have hs5 := hU5.size
        have hgl := hX5.lt
        have HX5 := hd hX5
        clear hac hcc hzz hrc hrz HR2 HA2 H2 HU2 hU5
        have hac := HA5.out.cell
        have hrc := HR5.out.cell
        have hrz := HR5.out.frozen
        have hxc := hX5.cell
        have hxz := hX5.frozen
        have hcc := H5.out.blk.cell
        have hzz := H5.out.blk.frozen
        simp only [AccS.cells] at hcc
        clear hX5
        have r1 : ¬ (b = gk) := by omega
        have r2 : ¬ (gk = b) := by omega
        have r3 : ¬ (w.heap.size = gk) := by omega
        have r4 : ¬ (gk = w.heap.size) := by omega
        have r5 : ¬ (w.heap.size + 1 = gk) := by omega
        have r6 : ¬ (gk = w.heap.size + 1) := by omega
        go_wp2_with fail
        go_region
        have hcmp : ¬ (nd = d.node) ∨ (nd = d.node ∧ LL < d.til) ∨ (nd = d.node ∧ LL = d.til) ∨ (nd = d.node ∧ d.til < LL) := by omega
        have hW6 : ∃ t : Int, (t = if nd = d.node then max LL d.til else LL) := ⟨_, rfl⟩
        obtain ⟨t, ht⟩ := hW6
        have HT := hd ht
        clear ht
        have HASK : Hd (d.ask m now long = ({ d with bal := m.bal, node := nd, til := t }, { kind := 11, bal := m.bal, time := m.time }, ch || !(nd == d.node && t == d.til))) := hd (by
          unfold AccS.ask; simp only; rw [if_neg (by simp [hl]), if_neg (by simp [ho]), hch, hLL, ← HND.out, ← HT.out])
        clear hch
        rcases hcmp with he | ⟨he, hm⟩ | ⟨he, hm⟩ | ⟨he, hm⟩
        case' inl =>
          obtain rfl : LL = t := by rw [HT.out, if_neg he]
          go_wp2_with fail
          have HX6 : Hd (Blk W5.drew gk #[.int .i64 nd, .int .i64 LL] 74) := hd HX5.out
          have hU6 : Upd [gk] W5 W5.drew := (Upd.refl _ _).drew
          generalize W5.drew = W6 at *
        case' inr.inl =>
          obtain rfl : d.til = t := by rw [HT.out, if_pos he]; omega
          subst he
          go_wp2_with fail
          go_region
          go_wp2_with fail
          have HX6 : Hd (Blk ((W5.setCell ⟨gk, 1, none⟩ (.int .i64 d.til)).drew.drew) gk #[.int .i64 d.node, .int .i64 d.til] 74) := hd (HX5.out.set 1 _)
          have hU6 : Upd [gk] W5 ((W5.setCell ⟨gk, 1, none⟩ (.int .i64 d.til)).drew.drew) := ((Upd.refl _ _).setCell (by simp) _).drew.drew
          generalize (W5.setCell ⟨gk, 1, none⟩ (.int .i64 d.til)).drew.drew = W6 at *
        case' inr.inr.inl =>
          obtain rfl : LL = t := by rw [HT.out, if_pos he]; omega
          subst he
          subst hm
          go_wp2_with fail
          go_region
          go_wp2_with fail
          have HX6 : Hd (Blk ((W5.setCell ⟨gk, 1, none⟩ (.int .i64 d.til)).drew.drew) gk #[.int .i64 d.node, .int .i64 d.til] 74) := hd (HX5.out.set 1 _)
          have hU6 : Upd [gk] W5 ((W5.setCell ⟨gk, 1, none⟩ (.int .i64 d.til)).drew.drew) := ((Upd.refl _ _).setCell (by simp) _).drew.drew
          generalize (W5.setCell ⟨gk, 1, none⟩ (.int .i64 d.til)).drew.drew = W6 at *
        case' inr.inr.inr =>
          obtain rfl : LL = t := by rw [HT.out, if_pos he]; omega
          subst he
          go_wp2_with fail
          go_region
          go_wp2_with fail
          have HX6 : Hd (Blk ((W5.setCell ⟨gk, 1, none⟩ (.int .i64 LL)).drew.drew) gk #[.int .i64 d.node, .int .i64 LL] 74) := hd (HX5.out.set 1 _)
          have hU6 : Upd [gk] W5 ((W5.setCell ⟨gk, 1, none⟩ (.int .i64 LL)).drew.drew) := ((Upd.refl _ _).setCell (by simp) _).drew.drew
          generalize (W5.setCell ⟨gk, 1, none⟩ (.int .i64 LL)).drew.drew = W6 at *
        all_goals
          have HR6 := hd (HR5.out.upd hU6 (by simp; omega))
          have HA6 := hd (HA5.out.upd hU6 (by simp; omega))
          have H6 := hd (H5.out.upd hU6 (by simp; omega) (fun g hg => by have := hol.out g hg; simp; omega))
          have HU6 := hd (HU5.out.trans' hU6 (by simp; omega))
          have hs6 := hU6.size
          clear hac hrc hrz hxc hxz hcc hzz HR5 HA5 H5 HU5 HX5 hU6
          have hac := HA6.out.cell
          have hrc := HR6.out.cell
          have hrz := HR6.out.frozen
          have hxc := HX6.out.cell
          have hcc := H6.out.blk.cell
          have hzz := H6.out.blk.frozen
          simp only [AccS.cells] at hcc
          cases ch
        all_goals
          go_wp2_with fail
          go_quiet (fail)
          go_wp2_with fail
          refine bodyPost_ret (v := _) (by simp [results, Try.results18, go_sem, hrc]; rfl) rfl ?_
          rw [HASK.out]
          refine ⟨?_, ?_, ?_⟩
          · simp [MsgS.val, msgC, *] <;> omega
          · exact fin_ask_up (W6.drewN_upd nq) HU6.out (by omega) (by omega) (upd_msg _ _ _ _ _ _ _ _ _ _ _ _ _)
          · exact fin_ask_at (d0 := { d with bal := m.bal }) (W6.drewN_upd nq) H6.out (by omega) (fun g hg => by have := hol.out g hg; omega) (upd_msg _ _ _ _ _ _ _ _ _ _ _ _ _)
end Go.Proofs.Ytfhmdeamhmjddaa
