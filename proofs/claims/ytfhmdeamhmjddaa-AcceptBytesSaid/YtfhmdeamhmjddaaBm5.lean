/-
  accept.Acceptor.Accept, walked whole. Conditions: an acceptor whose numbers and entries are as they may be.
-/
import Derived.Test.YtfhmdeamhmjddaaBm4
set_option linter.unusedVariables false
set_option linter.unusedSimpArgs false
set_option maxRecDepth 100000
namespace Go.Proofs.Ytfhmdeamhmjddaa
open Go.RowKit

def AccS.kept (d : AccS) (s : ByteArray) : ByteArray := if d.wit = true then digestOf s else s
def EntS.same (a b : EntS) : Bool := a.slot == b.slot && (a.bal.c == b.bal.c && (a.bal.n == b.bal.n && a.text.toList == b.text.toList))
/-- What Accept does, the ballot not being low. -/
def AccS.acceptOn (d : AccS) (m : MsgS) : AccS × MsgS × Bool :=
  let x : EntS := ⟨m.slot, m.bal, d.kept m.text⟩
  let i := aheadOf d.list m.slot
  let ch := !(d.bal.c == m.bal.c && d.bal.n == m.bal.n)
  let reply : MsgS := { kind := 4, bal := m.bal, slot := m.slot }
  if d.base < m.slot then
    if hasSlot d.list m.slot = true then
      if (d.list.getD i x).same x = true then ({ d with bal := m.bal }, reply, ch)
      else ({ d with bal := m.bal, list := d.list.set i x }, reply, true)
    else if 64 ≤ d.list.length then (d, {}, false)
    else ({ d with bal := m.bal, list := d.list.take i ++ x :: d.list.drop i }, reply, true)
  else ({ d with bal := m.bal }, reply, ch)
def AccS.accept (d : AccS) (m : MsgS) : AccS × MsgS × Bool := if d.low m.bal = true then (d, { kind := 5, bal := d.bal }, false) else d.acceptOn m

set_option maxHeartbeats 4000000 in
theorem accept_full_any (B b : Nat) (l : Value) (d : AccS) (m : MsgS) (ma : Option Addr) (mn mc : Nat) (w : World) (h : AccAt B w b l d) (hf : d.fine) (hm : SlotIn m.slot) (ht : m.text.size ≤ 1099511627776) (hl : d.low m.bal = false) (hB : B ≤ w.heap.size) (hab : d.base < m.slot) (hth : hasSlot d.list m.slot = false) (h64 : 64 ≤ d.list.length) :
    Calls Try.prog 17 #[.pointer (some ⟨b, 0, none⟩), m.val (.slice ma mn mc)] w fun e w' =>
      ∃ l', e = .returned (.tuple #[(d.acceptOn m).2.1.val (.slice none 0 0), .bool (d.acceptOn m).2.2]) ∧ AccAt B w' b l' (d.acceptOn m).1 ∧ WrUp b l l' w w' := by
  have hlt := h.blk.lt
  have hol := h.ownlt
  obtain ⟨a, cap, hlv, hnc, hcm, hac⟩ := own_open2 h.own
  have HOL := hd hol
  have HAC := hd hac
  have HLV := hd hlv
  have HF := hd hf
  have HS := hd hm
  have e2 := two_new w (msgC m (.slice ma mn mc)) (msgC {} (.slice none 0 0)) 41
  have hlo := low_any B b l d m.bal
  have hpr := promise_any B b l d m.bal
  rw [show m.bal.val = .agg #[.int .u64 m.bal.c, .int .i64 m.bal.n] from rfl] at hlo hpr
  simp only [msgC] at e2
  rw [show m.val (.slice ma mn mc) = .agg #[.int .i64 m.kind, .int .i64 m.frm, .int .i64 m.to, .int .i64 m.sub, .int .u64 m.bal.c, .int .i64 m.bal.n, .int .i64 m.slot, .int .i64 m.time, .bool m.okb, .string m.text, .slice ma mn mc] from rfl]
  have HL := hd hlo
  have HPR := hd hpr
  obtain ⟨hm0, hm1⟩ := hm
  have hlen := hf.sorted.len
  have hb0 := hf.base0
  have hb1 := hf.base1
  clear hlo hpr hf hol hac hlv hcm
  go_enter Try.func17, Try.ntmps17
  go_wp2_with fail
  obtain ⟨W, hW, hu, hA, hR, hsz⟩ := e2
  rw [hW]
  have H := hd (h.later hu)
  have HU := hd hu
  clear hW hu h
  refine (HL.out W H.out).mono ?_
  rintro e W1 ⟨rfl, hu1⟩
  rw [hl]
  have hr := hR.upd hu1 (by simp)
  have ha := hA.upd hu1 (by simp)
  have H1 := hd (H.out.later hu1)
  have HU1 := hd (HU.out.trans hu1)
  have hs1 := hu1.size
  clear hu1 HL hA hR H HU
  have hac := ha.cell
  have hfd := find_any B b l d m.slot W1 H1.out HF.out.sorted HS.out
  have HFD := hd hfd
  clear hfd
  go_wp2_with fail
  refine HFD.out.mono ?_
  rintro e W2 ⟨rfl, hu2⟩
  clear HFD hac
  have HR := hd (hr.upd hu2 (by simp))
  have HA := hd (ha.upd hu2 (by simp))
  have H2 := hd (H1.out.later hu2)
  have HU2 := hd (HU1.out.trans hu2)
  have hs2 := hu2.size
  clear hu2 hr ha H1 HU1
  have hlv := HLV.out
  subst hlv
  clear HLV
  have hac := HA.out.cell
  have hcc := H2.out.blk.cell
  simp only [AccS.cells] at hcc
  have hin := aheadOf_le d.list m.slot
  generalize hi : aheadOf d.list m.slot = i at *
  go_wp2_with fail
  go_region
  have hab0 := hab
  have hab' : decide (d.base < m.slot) = true := decide_eq_true hab
  have h64' : (64 : Int) ≤ (d.list.length : Int) := by omega
  have hrc := HR.out.cell
  have hrz := HR.out.frozen
  go_wp2_with fail
  refine bodyPost_ret (v := .tuple #[.agg #[.int .i64 0, .int .i64 0, .int .i64 0, .int .i64 0, .int .u64 0, .int .i64 0, .int .i64 0, .int .i64 0, .bool false, .string ⟨#[]⟩, .slice none 0 0], .bool false]) (by simp [results, Try.results17, go_sem, hrc]) rfl ?_
  have hx := Upd.refl [w.heap.size + 1] W2
  have hr : d.acceptOn m = (d, {}, false) := by unfold AccS.acceptOn; simp only; rw [if_pos hab, if_neg (by rw [hth]; simp), if_pos h64]
  rw [hr]
  refine ⟨_, rfl, ?_, ⟨?_, fun g hg => .inl hg⟩⟩
  · exact fin_at (k := w.heap.size + 1) (n := 0) H2.out (by omega) (fun g hg => by have := HOL.out g hg; omega) (by repeat (first | with_reducible exact hx | with_reducible exact Upd.refl _ _ | with_reducible refine Upd.alloc ?_ _ | with_reducible refine Upd.drew ?_ | with_reducible refine Upd.setCell ?_ (by first | (simp; done) | (simp; omega)) _))
  · exact fin_upd (k := w.heap.size + 1) (HU2.out.mono (by simp)) (by omega) (by repeat (first | with_reducible exact hx | with_reducible exact Upd.refl _ _ | with_reducible refine Upd.alloc ?_ _ | with_reducible refine Upd.drew ?_ | with_reducible refine Upd.setCell ?_ (by first | (simp; done) | (simp; omega)) _))

set_option maxHeartbeats 4000000 in
theorem accept_under_any (B b : Nat) (l : Value) (d : AccS) (m : MsgS) (ma : Option Addr) (mn mc : Nat) (w : World) (h : AccAt B w b l d) (hf : d.fine) (hm : SlotIn m.slot) (ht : m.text.size ≤ 1099511627776) (hl : d.low m.bal = false) (hB : B ≤ w.heap.size) (hab : ¬ d.base < m.slot) :
    Calls Try.prog 17 #[.pointer (some ⟨b, 0, none⟩), m.val (.slice ma mn mc)] w fun e w' =>
      ∃ l', e = .returned (.tuple #[(d.acceptOn m).2.1.val (.slice none 0 0), .bool (d.acceptOn m).2.2]) ∧ AccAt B w' b l' (d.acceptOn m).1 ∧ WrUp b l l' w w' := by
  have hlt := h.blk.lt
  have hol := h.ownlt
  obtain ⟨a, cap, hlv, hnc, hcm, hac⟩ := own_open2 h.own
  have HOL := hd hol
  have HAC := hd hac
  have HLV := hd hlv
  have HF := hd hf
  have HS := hd hm
  have e2 := two_new w (msgC m (.slice ma mn mc)) (msgC {} (.slice none 0 0)) 41
  have hlo := low_any B b l d m.bal
  have hpr := promise_any B b l d m.bal
  rw [show m.bal.val = .agg #[.int .u64 m.bal.c, .int .i64 m.bal.n] from rfl] at hlo hpr
  simp only [msgC] at e2
  rw [show m.val (.slice ma mn mc) = .agg #[.int .i64 m.kind, .int .i64 m.frm, .int .i64 m.to, .int .i64 m.sub, .int .u64 m.bal.c, .int .i64 m.bal.n, .int .i64 m.slot, .int .i64 m.time, .bool m.okb, .string m.text, .slice ma mn mc] from rfl]
  have HL := hd hlo
  have HPR := hd hpr
  obtain ⟨hm0, hm1⟩ := hm
  have hlen := hf.sorted.len
  have hb0 := hf.base0
  have hb1 := hf.base1
  clear hlo hpr hf hol hac hlv hcm
  go_enter Try.func17, Try.ntmps17
  go_wp2_with fail
  obtain ⟨W, hW, hu, hA, hR, hsz⟩ := e2
  rw [hW]
  have H := hd (h.later hu)
  have HU := hd hu
  clear hW hu h
  refine (HL.out W H.out).mono ?_
  rintro e W1 ⟨rfl, hu1⟩
  rw [hl]
  have hr := hR.upd hu1 (by simp)
  have ha := hA.upd hu1 (by simp)
  have H1 := hd (H.out.later hu1)
  have HU1 := hd (HU.out.trans hu1)
  have hs1 := hu1.size
  clear hu1 HL hA hR H HU
  have hac := ha.cell
  have hfd := find_any B b l d m.slot W1 H1.out HF.out.sorted HS.out
  have HFD := hd hfd
  clear hfd
  go_wp2_with fail
  refine HFD.out.mono ?_
  rintro e W2 ⟨rfl, hu2⟩
  clear HFD hac
  have HR := hd (hr.upd hu2 (by simp))
  have HA := hd (ha.upd hu2 (by simp))
  have H2 := hd (H1.out.later hu2)
  have HU2 := hd (HU1.out.trans hu2)
  have hs2 := hu2.size
  clear hu2 hr ha H1 HU1
  have hlv := HLV.out
  subst hlv
  clear HLV
  have hac := HA.out.cell
  have hcc := H2.out.blk.cell
  simp only [AccS.cells] at hcc
  have hin := aheadOf_le d.list m.slot
  generalize hi : aheadOf d.list m.slot = i at *
  go_wp2_with fail
  go_region
  have hab0 := hab
  have hab' : decide (d.base < m.slot) = false := decide_eq_false (by omega)
  have HPX := hd (fun W => HPR.out W)
  go_wp2_with fail
  refine (HPX.out _ (H2.out.later (by first | exact (Upd.refl _ _).drew | exact Upd.refl _ _))).mono ?_
  rintro e W3 ⟨rfl, hu3, h3⟩
  have HR3 := hd (HR.out.upd (Upd.trans (Upd.refl _ _).drew hu3) (by simp; omega))
  have HA3 := hd (HA.out.upd (Upd.trans (Upd.refl _ _).drew hu3) (by simp; omega))
  have HU3 := hd (((HU2.out.mono (by simp) : Upd [b] w W2).trans (Upd.refl _ _).drew).trans hu3)
  have hs3 : W2.heap.size ≤ W3.heap.size := hu3.size
  have H3 := hd h3
  clear hu3 h3 hac hcc HR HA HPR HPX HU2 H2
  have hac := HA3.out.cell
  generalize hch : (!(d.bal.c == m.bal.c && d.bal.n == m.bal.n)) = ch at *
  have HK : Hd (∀ W, Upd [] W3 W → Calls Try.prog 42 #[.pointer (some ⟨b, 0, none⟩), .string m.text] W fun e w' => e = .returned (.string (d.kept m.text)) ∧ Upd [] W w') := hd (fun W hu => kept_any B b (.slice a d.list.length cap) { d with bal := m.bal } m.text W (H3.out.later hu) (by omega))
  generalize hkt : d.kept m.text = kt at *
  have HKT := hd hkt
  clear hkt
  go_wp2_with fail
  have hlh := HA3.out.lt
  have n1 : ¬ (W3.heap.size = w.heap.size) := by omega
  have n2 : ¬ (w.heap.size = W3.heap.size) := by omega
  go_region_held3 (fun w' => w'.cell? ⟨w.heap.size, 4, none⟩ = some (.int .u64 m.bal.c) ∧ w'.cell? ⟨w.heap.size, 5, none⟩ = some (.int .i64 m.bal.n) ∧ w'.cell? ⟨w.heap.size, 6, none⟩ = some (.int .i64 m.slot) ∧ w'.cell? ⟨w.heap.size, 9, none⟩ = some (.string m.text)) (go_keep)
    (first
      | ((with_reducible refine (HK.out _ (Upd.refl [] W3).drew).mono ?_); rintro e w4 ⟨rfl, hu4⟩; have k1 := (HA3.out.upd ((Upd.refl [] W3).drew.trans hu4) (by simp)).cell; have hs4 : W3.heap.size ≤ w4.heap.size := hu4.size; have HU4 := hd hu4; clear hu4)
      | ((with_reducible refine (HK.out _ ((Upd.refl [] W3).alloc _).drew).mono ?_); rintro e w4 ⟨rfl, hu4⟩; have k1 := (HA3.out.upd ((((Upd.refl [] W3).alloc _).drew).trans hu4) (by simp)).cell; have kb := Blk.upd (Blk.newd W3 _ _ rfl) hu4 (by simp); have k2 := kb.cell; have k3 := kb.frozen; have KB := hd kb; have HU4 := hd hu4; clear hu4 kb))
  all_goals
    first
      | (have hU5 : Upd [] W3 (w4.alloc (.cells #[.int .i64 m.slot, .int .u64 m.bal.c, .int .i64 m.bal.n, .string kt] 85)) := (((Upd.refl [] W3).drew).trans HU4.out).alloc _
         have hX5 : Blk (w4.alloc (.cells #[.int .i64 m.slot, .int .u64 m.bal.c, .int .i64 m.bal.n, .string kt] 85)) w4.heap.size #[.int .i64 m.slot, .int .u64 m.bal.c, .int .i64 m.bal.n, .string kt] 85 := Blk.new _ _ _
         have hge : W3.heap.size ≤ w4.heap.size := hs4
         clear hs4 k1
         generalize w4.alloc (.cells #[.int .i64 m.slot, .int .u64 m.bal.c, .int .i64 m.bal.n, .string kt] 85) = W5 at *
         clear HU4
         generalize w4.heap.size = kx at *)
      | (have hU5 : Upd [] W3 ((((w4.setCell ⟨W3.heap.size, 0, none⟩ (.int .i64 m.slot)).setCell ⟨W3.heap.size, 1, none⟩ (.int .u64 m.bal.c)).setCell ⟨W3.heap.size, 2, none⟩ (.int .i64 m.bal.n)).setCell ⟨W3.heap.size, 3, none⟩ (.string kt)) := (((((((Upd.refl [] W3).alloc _).drew).trans HU4.out).setCell (.inr (Nat.le_refl _)) _).setCell (.inr (Nat.le_refl _)) _).setCell (.inr (Nat.le_refl _)) _).setCell (.inr (Nat.le_refl _)) _
         have hX5 : Blk ((((w4.setCell ⟨W3.heap.size, 0, none⟩ (.int .i64 m.slot)).setCell ⟨W3.heap.size, 1, none⟩ (.int .u64 m.bal.c)).setCell ⟨W3.heap.size, 2, none⟩ (.int .i64 m.bal.n)).setCell ⟨W3.heap.size, 3, none⟩ (.string kt)) W3.heap.size #[.int .i64 m.slot, .int .u64 m.bal.c, .int .i64 m.bal.n, .string kt] 85 := (((KB.out.set 0 _).set 1 _).set 2 _).set 3 _
         obtain ⟨kx, hkx⟩ : ∃ kx, kx = W3.heap.size := ⟨_, rfl⟩
         have hge : W3.heap.size ≤ kx := by omega
         clear k1 k2 k3 KB HU4
         generalize ((((w4.setCell ⟨W3.heap.size, 0, none⟩ (.int .i64 m.slot)).setCell ⟨W3.heap.size, 1, none⟩ (.int .u64 m.bal.c)).setCell ⟨W3.heap.size, 2, none⟩ (.int .i64 m.bal.n)).setCell ⟨W3.heap.size, 3, none⟩ (.string kt)) = W5 at *
         rw [← hkx] at hX5 ⊢
         clear hkx)
  all_goals
    have HR5 := hd (HR3.out.upd hU5 (by simp))
    have HA5 := hd (HA3.out.upd hU5 (by simp))
    have H5 := hd (H3.out.later hU5)
    have HU5 := hd (HU3.out.trans (hU5.mono (by simp)))
    have HX5 := hd hX5
    have hs5 := hU5.size
    have hlx := hX5.lt
    clear hac HR3 HA3 H3 HU3 HK hU5 n1 n2
    have hac := HA5.out.cell
    have hrc := HR5.out.cell
    have hrz := HR5.out.frozen
    have hxc := hX5.cell
    clear hX5
  all_goals
    go_wp2_with fail
    refine bodyPost_ret (v := .tuple #[.agg #[.int .i64 4, .int .i64 0, .int .i64 0, .int .i64 0, .int .u64 m.bal.c, .int .i64 m.bal.n, .int .i64 m.slot, .int .i64 0, .bool false, .string ⟨#[]⟩, .slice none 0 0], .bool ch]) (by simp [results, Try.results17, go_sem, hrc]) rfl ?_
    have hx := Upd.refl [w.heap.size + 1] W5
    have hr : d.acceptOn m = ({ d with bal := m.bal }, { kind := 4, bal := m.bal, slot := m.slot }, ch) := by unfold AccS.acceptOn; simp only; rw [if_neg (show ¬ d.base < m.slot by omega), hch]
    rw [hr]
    refine ⟨_, rfl, ?_, ⟨?_, fun g hg => .inl hg⟩⟩
    · exact fin_at (k := w.heap.size + 1) (n := 0) H5.out (by omega) (fun g hg => by have := HOL.out g hg; omega) (by repeat (first | with_reducible exact hx | with_reducible exact Upd.refl _ _ | with_reducible refine Upd.alloc ?_ _ | with_reducible refine Upd.drew ?_ | with_reducible refine Upd.setCell ?_ (by first | (simp; done) | (simp; omega)) _))
    · exact fin_upd (k := w.heap.size + 1) (HU5.out.mono (by simp)) (by omega) (by repeat (first | with_reducible exact hx | with_reducible exact Upd.refl _ _ | with_reducible refine Upd.alloc ?_ _ | with_reducible refine Upd.drew ?_ | with_reducible refine Upd.setCell ?_ (by first | (simp; done) | (simp; omega)) _))

end Go.Proofs.Ytfhmdeamhmjddaa

set_option linter.unusedVariables false
set_option linter.unusedSimpArgs false
set_option maxRecDepth 100000
namespace Go.Proofs.Ytfhmdeamhmjddaa
open Go.RowKit

theorem upd_msg (w : World) (k : Nat) (v0 v1 v2 v3 v4 v5 v6 v7 v8 v9 v10 : Value) : Upd [k] w (((((((((((w.setCell ⟨k, 0, none⟩ v0).setCell ⟨k, 1, none⟩ v1).setCell ⟨k, 2, none⟩ v2).setCell ⟨k, 3, none⟩ v3).setCell ⟨k, 4, none⟩ v4).setCell ⟨k, 5, none⟩ v5).setCell ⟨k, 6, none⟩ v6).setCell ⟨k, 7, none⟩ v7).setCell ⟨k, 8, none⟩ v8).setCell ⟨k, 9, none⟩ v9).setCell ⟨k, 10, none⟩ v10) := by
  have hx := Upd.refl [k] w
  exact (by repeat (first | with_reducible exact hx | with_reducible exact Upd.refl _ _ | with_reducible refine Upd.alloc ?_ _ | with_reducible refine Upd.drew ?_ | with_reducible refine Upd.setCell ?_ (by first | (simp; done) | (simp; omega)) _))
theorem fin_new_at {B b n : Nat} {l l' : Value} {d0 : AccS} {L : List EntS} {w W5 W6 w6 w8 : World} (hU5 : Upd [b] w W5) (hu0 : Upd [] W5 W6) (hu6 : Upd l.ownBlock.toList W6 w6)
    (kb : Blk w6 b (d0.cells l) 76) (ko : w6.ownsRow B 85 4 l' n (entCells L)) (hL : L.length = n) (kg : ∀ g, l'.ownBlock = some g → l.ownBlock = some g ∨ W6.heap.size ≤ g)
    (hb : b < w.heap.size) (hol : ∀ g, l.ownBlock = some g → g < w.heap.size) (hne : ∀ g, l.ownBlock = some g → g ≠ b) (hsz : w.heap.size + 2 ≤ W5.heap.size) (hx : Upd [w.heap.size + 1] (w6.setCell ⟨b, 4, none⟩ l') w8) :
    AccAt B w8 b l' { d0 with list := L } := by
  subst hL
  have hs0 := hu0.size
  have hg : ∀ g, l'.ownBlock = some g → g ≠ b ∧ g ≠ w.heap.size + 1 := fun g hg => by
    rcases kg g hg with h | h
    · have h1 := hol g h; exact ⟨hne g h, by omega⟩
    · exact ⟨by omega, by omega⟩
  refine ⟨(kb.set 4 l').upd hx (by simp; omega), ?_⟩
  exact own_upd (L := [w.heap.size + 1]) (own_upd (L := [b]) ko ((Upd.refl _ _).setCell (by simp) _) (fun g h => by simpa using (hg g h).1)) hx (fun g h => by simpa using (hg g h).2)
theorem fin_new_up {b k : Nat} {l l' : Value} {w W5 W6 w6 w8 : World} (hU5 : Upd [b] w W5) (hu0 : Upd [] W5 W6) (hu6 : Upd l.ownBlock.toList W6 w6)
    (kg : ∀ g, l'.ownBlock = some g → l.ownBlock = some g ∨ W6.heap.size ≤ g) (hk : w.heap.size ≤ k) (hx : Upd [k] (w6.setCell ⟨b, 4, none⟩ l') w8) : WrUp b l l' w w8 := by
  have h5 := hU5.size
  have h6 := hu0.size
  have hall : Upd (b :: l.ownBlock.toList) w w6 := ((hU5.mono (by simp)).trans (hu0.mono (by simp))).trans (hu6.mono (by simp; intro i hi; exact .inl (.inr hi)))
  refine ⟨(hall.setCell (p := ⟨b, 4, none⟩) (by simp) l').trans' hx (by simp; omega), fun g hg => (kg g hg).imp_right (by omega)⟩

set_option maxHeartbeats 4000000 in
theorem accept_new_any (B b : Nat) (l : Value) (d : AccS) (m : MsgS) (ma : Option Addr) (mn mc : Nat) (w : World) (h : AccAt B w b l d) (hf : d.fine) (hm : SlotIn m.slot) (ht : m.text.size ≤ 1099511627776) (hl : d.low m.bal = false) (hB : B ≤ w.heap.size) (hab : d.base < m.slot) (hth : hasSlot d.list m.slot = false) (h64 : ¬ 64 ≤ d.list.length) :
    Calls Try.prog 17 #[.pointer (some ⟨b, 0, none⟩), m.val (.slice ma mn mc)] w fun e w' =>
      ∃ l', e = .returned (.tuple #[(d.acceptOn m).2.1.val (.slice none 0 0), .bool (d.acceptOn m).2.2]) ∧ AccAt B w' b l' (d.acceptOn m).1 ∧ WrUp b l l' w w' := by
  have hlt := h.blk.lt
  have hol := h.ownlt
  obtain ⟨a, cap, hlv, hnc, hcm, hac⟩ := own_open2 h.own
  have HOL := hd hol
  have HAC := hd hac
  have HLV := hd hlv
  have HF := hd hf
  have HS := hd hm
  have e2 := two_new w (msgC m (.slice ma mn mc)) (msgC {} (.slice none 0 0)) 41
  have hlo := low_any B b l d m.bal
  have hpr := promise_any B b l d m.bal
  rw [show m.bal.val = .agg #[.int .u64 m.bal.c, .int .i64 m.bal.n] from rfl] at hlo hpr
  simp only [msgC] at e2
  rw [show m.val (.slice ma mn mc) = .agg #[.int .i64 m.kind, .int .i64 m.frm, .int .i64 m.to, .int .i64 m.sub, .int .u64 m.bal.c, .int .i64 m.bal.n, .int .i64 m.slot, .int .i64 m.time, .bool m.okb, .string m.text, .slice ma mn mc] from rfl]
  have HL := hd hlo
  have HPR := hd hpr
  obtain ⟨hm0, hm1⟩ := hm
  have hlen := hf.sorted.len
  have hb0 := hf.base0
  have hb1 := hf.base1
  clear hlo hpr hf hol hac hlv hcm
  go_enter Try.func17, Try.ntmps17
  go_wp2_with fail
  obtain ⟨W, hW, hu, hA, hR, hsz⟩ := e2
  rw [hW]
  have H := hd (h.later hu)
  have HU := hd hu
  clear hW hu h
  refine (HL.out W H.out).mono ?_
  rintro e W1 ⟨rfl, hu1⟩
  rw [hl]
  have hr := hR.upd hu1 (by simp)
  have ha := hA.upd hu1 (by simp)
  have H1 := hd (H.out.later hu1)
  have HU1 := hd (HU.out.trans hu1)
  have hs1 := hu1.size
  clear hu1 HL hA hR H HU
  have hac := ha.cell
  have hfd := find_any B b l d m.slot W1 H1.out HF.out.sorted HS.out
  have HFD := hd hfd
  clear hfd
  go_wp2_with fail
  refine HFD.out.mono ?_
  rintro e W2 ⟨rfl, hu2⟩
  clear HFD hac
  have HR := hd (hr.upd hu2 (by simp))
  have HA := hd (ha.upd hu2 (by simp))
  have H2 := hd (H1.out.later hu2)
  have HU2 := hd (HU1.out.trans hu2)
  have hs2 := hu2.size
  clear hu2 hr ha H1 HU1
  have hlv := HLV.out
  subst hlv
  clear HLV
  have hac := HA.out.cell
  have hcc := H2.out.blk.cell
  simp only [AccS.cells] at hcc
  have hin := aheadOf_le d.list m.slot
  generalize hi : aheadOf d.list m.slot = i at *
  go_wp2_with fail
  go_region
  have hab0 := hab
  have hab' : decide (d.base < m.slot) = true := decide_eq_true hab
  have h64' : ¬ (64 : Int) ≤ (d.list.length : Int) := by omega
  have HPX := hd (fun W => HPR.out W)
  go_wp2_with fail
  refine (HPX.out _ (H2.out.later (by first | exact (Upd.refl _ _).drew | exact Upd.refl _ _))).mono ?_
  rintro e W3 ⟨rfl, hu3, h3⟩
  have HR3 := hd (HR.out.upd (Upd.trans (Upd.refl _ _).drew hu3) (by simp; omega))
  have HA3 := hd (HA.out.upd (Upd.trans (Upd.refl _ _).drew hu3) (by simp; omega))
  have HU3 := hd (((HU2.out.mono (by simp) : Upd [b] w W2).trans (Upd.refl _ _).drew).trans hu3)
  have hs3 : W2.heap.size ≤ W3.heap.size := hu3.size
  have H3 := hd h3
  clear hu3 h3 hac hcc HR HA HPR HPX HU2 H2
  have hac := HA3.out.cell
  generalize hch : (!(d.bal.c == m.bal.c && d.bal.n == m.bal.n)) = ch at *
  have HK : Hd (∀ W, Upd [] W3 W → Calls Try.prog 42 #[.pointer (some ⟨b, 0, none⟩), .string m.text] W fun e w' => e = .returned (.string (d.kept m.text)) ∧ Upd [] W w') := hd (fun W hu => kept_any B b (.slice a d.list.length cap) { d with bal := m.bal } m.text W (H3.out.later hu) (by omega))
  generalize hkt : d.kept m.text = kt at *
  have HKT := hd hkt
  clear hkt
  go_wp2_with fail
  have hlh := HA3.out.lt
  have n1 : ¬ (W3.heap.size = w.heap.size) := by omega
  have n2 : ¬ (w.heap.size = W3.heap.size) := by omega
  go_region_held3 (fun w' => w'.cell? ⟨w.heap.size, 4, none⟩ = some (.int .u64 m.bal.c) ∧ w'.cell? ⟨w.heap.size, 5, none⟩ = some (.int .i64 m.bal.n) ∧ w'.cell? ⟨w.heap.size, 6, none⟩ = some (.int .i64 m.slot) ∧ w'.cell? ⟨w.heap.size, 9, none⟩ = some (.string m.text)) (go_keep)
    (first
      | ((with_reducible refine (HK.out _ (Upd.refl [] W3).drew).mono ?_); rintro e w4 ⟨rfl, hu4⟩; have k1 := (HA3.out.upd ((Upd.refl [] W3).drew.trans hu4) (by simp)).cell; have hs4 : W3.heap.size ≤ w4.heap.size := hu4.size; have HU4 := hd hu4; clear hu4)
      | ((with_reducible refine (HK.out _ ((Upd.refl [] W3).alloc _).drew).mono ?_); rintro e w4 ⟨rfl, hu4⟩; have k1 := (HA3.out.upd ((((Upd.refl [] W3).alloc _).drew).trans hu4) (by simp)).cell; have kb := Blk.upd (Blk.newd W3 _ _ rfl) hu4 (by simp); have k2 := kb.cell; have k3 := kb.frozen; have KB := hd kb; have HU4 := hd hu4; clear hu4 kb))
  all_goals
    first
      | (have hU5 : Upd [] W3 (w4.alloc (.cells #[.int .i64 m.slot, .int .u64 m.bal.c, .int .i64 m.bal.n, .string kt] 85)) := (((Upd.refl [] W3).drew).trans HU4.out).alloc _
         have hX5 : Blk (w4.alloc (.cells #[.int .i64 m.slot, .int .u64 m.bal.c, .int .i64 m.bal.n, .string kt] 85)) w4.heap.size #[.int .i64 m.slot, .int .u64 m.bal.c, .int .i64 m.bal.n, .string kt] 85 := Blk.new _ _ _
         have hge : W3.heap.size ≤ w4.heap.size := hs4
         clear hs4 k1
         generalize w4.alloc (.cells #[.int .i64 m.slot, .int .u64 m.bal.c, .int .i64 m.bal.n, .string kt] 85) = W5 at *
         clear HU4
         generalize w4.heap.size = kx at *)
      | (have hU5 : Upd [] W3 ((((w4.setCell ⟨W3.heap.size, 0, none⟩ (.int .i64 m.slot)).setCell ⟨W3.heap.size, 1, none⟩ (.int .u64 m.bal.c)).setCell ⟨W3.heap.size, 2, none⟩ (.int .i64 m.bal.n)).setCell ⟨W3.heap.size, 3, none⟩ (.string kt)) := (((((((Upd.refl [] W3).alloc _).drew).trans HU4.out).setCell (.inr (Nat.le_refl _)) _).setCell (.inr (Nat.le_refl _)) _).setCell (.inr (Nat.le_refl _)) _).setCell (.inr (Nat.le_refl _)) _
         have hX5 : Blk ((((w4.setCell ⟨W3.heap.size, 0, none⟩ (.int .i64 m.slot)).setCell ⟨W3.heap.size, 1, none⟩ (.int .u64 m.bal.c)).setCell ⟨W3.heap.size, 2, none⟩ (.int .i64 m.bal.n)).setCell ⟨W3.heap.size, 3, none⟩ (.string kt)) W3.heap.size #[.int .i64 m.slot, .int .u64 m.bal.c, .int .i64 m.bal.n, .string kt] 85 := (((KB.out.set 0 _).set 1 _).set 2 _).set 3 _
         obtain ⟨kx, hkx⟩ : ∃ kx, kx = W3.heap.size := ⟨_, rfl⟩
         have hge : W3.heap.size ≤ kx := by omega
         clear k1 k2 k3 KB HU4
         generalize ((((w4.setCell ⟨W3.heap.size, 0, none⟩ (.int .i64 m.slot)).setCell ⟨W3.heap.size, 1, none⟩ (.int .u64 m.bal.c)).setCell ⟨W3.heap.size, 2, none⟩ (.int .i64 m.bal.n)).setCell ⟨W3.heap.size, 3, none⟩ (.string kt)) = W5 at *
         rw [← hkx] at hX5 ⊢
         clear hkx)
  all_goals
    have HR5 := hd (HR3.out.upd hU5 (by simp))
    have HA5 := hd (HA3.out.upd hU5 (by simp))
    have H5 := hd (H3.out.later hU5)
    have HU5 := hd (HU3.out.trans (hU5.mono (by simp)))
    have HX5 := hd hX5
    have hs5 := hU5.size
    have hlx := hX5.lt
    clear hac HR3 HA3 H3 HU3 HK hU5 n1 n2
    have hac := HA5.out.cell
    have hrc := HR5.out.cell
    have hrz := HR5.out.frozen
    have hxc := hX5.cell
    clear hX5
  all_goals
    have hcc := H5.out.blk.cell
    have hzz := H5.out.blk.frozen
    simp only [AccS.cells] at hcc
    obtain ⟨x, hx⟩ : ∃ x : EntS, x = ⟨m.slot, m.bal, kt⟩ := ⟨_, rfl⟩
    have hxe : x.cells.toArray = #[.int .i64 m.slot, .int .u64 m.bal.c, .int .i64 m.bal.n, .string kt] := by rw [hx]; rfl
    have HI : Hd (∀ W (_ : Upd [] W5 W) k (_ : Blk W k #[.int .i64 m.slot, .int .u64 m.bal.c, .int .i64 m.bal.n, .string kt] 85) (_ : W5.heap.size ≤ k),
        Calls Try.prog 43 #[.slice a d.list.length cap, .int .i64 i, .slice (some ⟨k, 0, none⟩) 1 1] W fun e w' =>
          ∃ v', e = .returned v' ∧ w'.ownsRow B 85 4 v' (d.list.length + 1) (entCells (d.list.take i ++ x :: d.list.drop i)) ∧ Upd (Value.slice a d.list.length cap).ownBlock.toList W w' ∧ (∀ g, v'.ownBlock = some g → (Value.slice a d.list.length cap).ownBlock = some g ∨ W.heap.size ≤ g)) :=
      hd (fun W hu k hk hkl => insert_any B (.slice a d.list.length cap) d.list x i k W (own_upd H5.out.own hu (by simp)) (by rw [hxe]; exact hk) (fun g hg => by have := HOL.out g hg; omega) hin hlen (by have := hu.size; omega))
    have hbn : b ∉ (Value.slice a d.list.length cap).ownBlock.toList := fun hm => H5.out.ne b (by simpa using hm) rfl
    have hhn : w.heap.size ∉ (Value.slice a d.list.length cap).ownBlock.toList := fun hm => by have := HOL.out _ (by simpa using hm); omega
    have hrn : w.heap.size + 1 ∉ (Value.slice a d.list.length cap).ownBlock.toList := fun hm => by have := HOL.out _ (by simpa using hm); omega
    have HBN := hd hbn
    have HHN := hd hhn
    have HRN := hd hrn
    have hlb : b < W5.heap.size := by omega
    clear hbn hhn hrn
    have q1 : ¬ (b = w.heap.size) := by omega
    have q2 : ¬ (w.heap.size = b) := by omega
    have q3 : ¬ (b = w.heap.size + 1) := by omega
    have q4 : ¬ (w.heap.size + 1 = b) := by omega
    clear hxe
    have HX := hd hx
    clear hx
    go_wp2_with fail
    go_region_with (first
      | ((with_reducible refine (HI.out _ ((Upd.refl [] W5).alloc _).drew _ (Blk.newd W5 _ _ rfl) (Nat.le_refl _)).mono ?_); rintro e w6 ⟨v', rfl, ho6, hu6, hg6⟩; obtain ⟨xa, xc, rfl, -⟩ := own_open ho6; have kb := H5.out.blk.upd (((Upd.refl [] W5).alloc _).drew) (by simp) |>.upd hu6 HBN.out; have kc := kb.cell; have kz := kb.frozen; have kh := (HA5.out.upd (((Upd.refl [] W5).alloc _).drew) (by simp) |>.upd hu6 HHN.out).cell; have kr := HR5.out.upd (((Upd.refl [] W5).alloc _).drew) (by simp) |>.upd hu6 HRN.out; have krc := kr.cell; have krz := kr.frozen; simp only [AccS.cells] at kc; have KB := hd kb; have KO := hd ho6; have KU := hd hu6; have KG := hd hg6; clear kb ho6 hu6 hg6 kr))
  all_goals
    go_wp2_with fail
    refine bodyPost_ret (v := .tuple #[.agg #[.int .i64 4, .int .i64 0, .int .i64 0, .int .i64 0, .int .u64 m.bal.c, .int .i64 m.bal.n, .int .i64 m.slot, .int .i64 0, .bool false, .string ⟨#[]⟩, .slice none 0 0], .bool true]) (by simp [results, Try.results17, go_sem, krc]) rfl ?_
    have hz := upd_msg (w6.setCell ⟨b, 4, none⟩ (.slice xa (d.list.length + 1) xc)) (w.heap.size + 1) (.int .i64 4) (.int .i64 0) (.int .i64 0) (.int .i64 0) (.int .u64 m.bal.c) (.int .i64 m.bal.n) (.int .i64 m.slot) (.int .i64 0) (.bool false) (.string ⟨#[]⟩) (.slice none 0 0)
    have hx0 := HX.out
    rw [← HKT.out] at hx0
    have hr : d.acceptOn m = ({ d with bal := m.bal, list := d.list.take i ++ x :: d.list.drop i }, { kind := 4, bal := m.bal, slot := m.slot }, true) := by
      unfold AccS.acceptOn; simp only; rw [if_pos hab0, if_neg (by rw [hth]; simp), if_neg h64, hi, hx0]
    rw [hr]
    have hL := ents_ins_len d.list x i hin
    have hu0 : Upd [] W5 ((W5.alloc (.cells #[.int .i64 m.slot, .int .u64 m.bal.c, .int .i64 m.bal.n, .string kt] 85)).drew) := ((Upd.refl _ _).alloc _).drew
    exact ⟨.slice xa (d.list.length + 1) xc, rfl,
      fin_new_at (d0 := { d with bal := m.bal }) HU5.out hu0 KU.out KB.out KO.out hL KG.out hlt HOL.out H5.out.ne (by omega) hz,
      fin_new_up (k := w.heap.size + 1) HU5.out hu0 KU.out KG.out (by omega) hz⟩

end Go.Proofs.Ytfhmdeamhmjddaa
