/-
  accept.Acceptor.Ask, walked. Conditions: an acceptor whose numbers are as they may be, times that there may be.
-/
import Derived.Test.YtfhmdeamhmjddaaPm7
set_option linter.unusedVariables false
set_option linter.unusedSimpArgs false
set_option maxRecDepth 100000
namespace Go.Proofs.Ytfhmdeamhmjddaa
open Go.RowKit

theorem within_any (t : Int) (w : World) (h0 : 0 ≤ t) (h1 : t ≤ 4398046511104) : Calls Try.prog 70 #[.int .i64 t] w fun e w' => e = .returned (.int .i64 (min t 1099511627776)) ∧ w = w' := by
  go_enter Try.func70, Try.ntmps70
  go_wp2
  all_goals
    go_ret
    refine ⟨ret_i ?_, rfl⟩
    simp only [Int.min_def]
    first | rfl | (split <;> omega) | (repeat' split) <;> omega
def laterI (now long : Int) : Int := min (now + long) 1099511627776
theorem later_any (a b : Int) (w : World) (ha : TimeIn a) (hb : TimeIn b) : Calls Try.prog 44 #[.int .i64 a, .int .i64 b] w fun e w' => e = .returned (.int .i64 (laterI a b)) ∧ w = w' := by
  obtain ⟨ha0, ha1⟩ := ha
  obtain ⟨hb0, hb1⟩ := hb
  have H1 := hd (within_any a w ha0 (by omega))
  have H2 := hd (within_any b w hb0 (by omega))
  have H3 := hd (within_any (a + b) w (by omega) (by omega))
  have ea : min a 1099511627776 = a := by omega
  have eb : min b 1099511627776 = b := by omega
  rw [ea] at H1
  rw [eb] at H2
  have HL := hd (show laterI a b = min (a + b) 1099511627776 from rfl)
  go_enter Try.func44, Try.ntmps44
  go_wp2_with (first
    | ((with_reducible refine H1.out.mono ?_); rintro e w' ⟨rfl, rfl⟩)
    | ((with_reducible refine H2.out.mono ?_); rintro e w' ⟨rfl, rfl⟩)
    | ((with_reducible refine H3.out.mono ?_); rintro e w' ⟨rfl, rfl⟩))
  all_goals
    go_ret
    exact ⟨rfl, rfl⟩

/-- What Ask does. -/
def AccS.ask (d : AccS) (m : MsgS) (now long : Int) : AccS × MsgS × Bool :=
  if d.low m.bal = true then (d, { kind := 5, bal := d.bal }, false)
  else if d.others m.frm now = true then (d, { kind := 5, bal := d.bal, time := d.til - now }, false)
  else
    let t := if m.frm + 1 = d.node then max (laterI now long) d.til else laterI now long
    ({ d with bal := m.bal, node := m.frm + 1, til := t }, { kind := 11, bal := m.bal, time := m.time }, !(d.bal.c == m.bal.c && d.bal.n == m.bal.n) || !(m.frm + 1 == d.node && t == d.til))

theorem _root_.Go.World.drewN_upd (w : World) (n : Nat) : Upd [] w (w.drewN n) := by
  induction n with
  | zero => exact Upd.refl _ _
  | succ n ih => exact ih.drew
theorem fin_ask_up {b k : Nat} {w W6 Wq W8 : World} {u v : Value} (hq : Upd [] W6 Wq) (hU : Upd [b] w W6) (hk : w.heap.size ≤ k) (hb : b < w.heap.size) (hx : Upd [k] ((Wq.setCell ⟨b, 5, none⟩ u).setCell ⟨b, 6, none⟩ v) W8) : Upd [b] w W8 :=
  (((hU.trans (hq.mono (by simp))).setCell (p := ⟨b, 5, none⟩) (by simp) u).setCell (p := ⟨b, 6, none⟩) (by simp) v).trans' hx (by simp; omega)
theorem fin_ask_at {B b k : Nat} {l : Value} {d0 : AccS} {n t : Int} {W6 Wq W8 : World} (hq : Upd [] W6 Wq) (h : AccAt B W6 b l d0) (hk : b < k) (hl : ∀ g, l.ownBlock = some g → g < k)
    (hx : Upd [k] ((Wq.setCell ⟨b, 5, none⟩ (.int .i64 n)).setCell ⟨b, 6, none⟩ (.int .i64 t)) W8) : AccAt B W8 b l { d0 with node := n, til := t } := by
  have h1 := h.later hq
  refine ⟨((h1.blk.set 5 _).set 6 _).upd hx (by simp; omega), ?_⟩
  exact own_upd (L := [k]) (own_upd (L := [b]) h1.own (((Upd.refl _ _).setCell (by simp) _).setCell (by simp) _) (fun g hg => by simpa using h1.ne g hg)) hx (fun g hg => by have := hl g hg; simp; omega)

set_option maxHeartbeats 8000000 in
theorem ask_any (B b : Nat) (l : Value) (d : AccS) (m : MsgS) (ma : Option Addr) (mn mc : Nat) (now long : Int) (w : World) (h : AccAt B w b l d) (hf : d.fine) (hfr : TimeIn m.frm) (hnow : TimeIn now) (hlong : TimeIn long) :
    Calls Try.prog 18 #[.pointer (some ⟨b, 0, none⟩), m.val (.slice ma mn mc), .int .i64 now, .int .i64 long] w fun e w' =>
      e = .returned (.tuple #[(d.ask m now long).2.1.val (.slice none 0 0), .bool (d.ask m now long).2.2]) ∧ Upd [b] w w' ∧ AccAt B w' b l (d.ask m now long).1 := by
  have hlt := h.blk.lt
  have hol := hd h.ownlt
  have ht0 := hf.til0
  have ht1 := hf.til1
  have hn0 := hf.node0
  have hn1 := hf.node1
  have e2 := two_new w (msgC m (.slice ma mn mc)) (msgC {} (.slice none 0 0)) 41
  have ho1 := others_any B b l d m.frm now
  have hlo := low_any B b l d m.bal
  have hpr := promise_any B b l d m.bal
  have hrf := refuse_any B b l d
  have hlt1 := later_any now long
  have HLA := hd (fun w => hlt1 w hnow hlong)
  have hlb : 0 ≤ laterI now long ∧ laterI now long ≤ 1099511627776 := by obtain ⟨a, b⟩ := hnow; obtain ⟨c, d⟩ := hlong; unfold laterI; omega
  obtain ⟨hfr0, hfr1⟩ := hfr
  obtain ⟨hw0, hw1⟩ := hnow
  unfold MsgS.val at hrf
  simp only [msgC] at e2 hrf
  rw [show m.bal.val = .agg #[.int .u64 m.bal.c, .int .i64 m.bal.n] from rfl] at hlo hpr
  rw [show m.val (.slice ma mn mc) = .agg #[.int .i64 m.kind, .int .i64 m.frm, .int .i64 m.to, .int .i64 m.sub, .int .u64 m.bal.c, .int .i64 m.bal.n, .int .i64 m.slot, .int .i64 m.time, .bool m.okb, .string m.text, .slice ma mn mc] from rfl]
  have HL := hd hlo
  have HPR := hd hpr
  have HRF := hd hrf
  have HO := hd ho1
  clear hlo hpr hrf ho1 hlt1 hf
  go_enter Try.func18, Try.ntmps18
  go_wp2_with fail
  obtain ⟨W, hW, hu, hA, hR, hsz⟩ := e2
  rw [hW]
  have H := hd (h.later hu)
  have HU := hd hu
  clear hW hu h
  refine (HL.out W H.out).mono ?_
  rintro e W1 ⟨rfl, hu1⟩
  have hr := hR.upd hu1 (by simp)
  have ha := hA.upd hu1 (by simp)
  have H1 := hd (H.out.later hu1)
  have HU1 := hd (HU.out.trans hu1)
  have hs1 := hu1.size
  clear hu1 hA hR HU H HL
  cases hl : d.low m.bal
  case true =>
    have HP := hd (show d.ask m now long = (d, { kind := 5, bal := d.bal }, false) by unfold AccS.ask; rw [if_pos hl])
    go_wp2_with ((with_reducible refine (HRF.out _ _ H1.out).mono ?_); rintro e w' ⟨rfl, hu⟩; have hr2 := hr.upd hu (by simp); have hrc := hr2.cell; have hrz := hr2.frozen; have HR2 := hd hr2; have HU2 := hd hu; clear hu hr2)
    refine bodyPost_ret (v := .tuple #[.agg #[.int .i64 5, .int .i64 0, .int .i64 0, .int .i64 0, .int .u64 d.bal.c, .int .i64 d.bal.n, .int .i64 0, .int .i64 0, .bool false, .string ⟨#[]⟩, .slice none 0 0], .bool false]) (by simp [results, Try.results18, go_sem, hrc]) rfl ?_
    rw [HP.out]
    have hx := Upd.refl [w.heap.size + 1] w'
    refine ⟨rfl, ?_, ?_⟩
    · exact fin_upd (k := w.heap.size + 1) ((HU1.out.trans HU2.out).mono (by simp)) (by omega) (by repeat (first | with_reducible exact hx | with_reducible exact Upd.refl _ _ | with_reducible refine Upd.alloc ?_ _ | with_reducible refine Upd.drew ?_ | with_reducible refine Upd.setCell ?_ (by first | (simp; done) | (simp; omega)) _))
    · exact fin_at (k := w.heap.size + 1) (n := 0) (H1.out.later HU2.out) (by omega) (fun g hg => by have := hol.out g hg; omega) (by repeat (first | with_reducible exact hx | with_reducible exact Upd.refl _ _ | with_reducible refine Upd.alloc ?_ _ | with_reducible refine Upd.drew ?_ | with_reducible refine Upd.setCell ?_ (by first | (simp; done) | (simp; omega)) _))
  case false =>
    have hac := ha.cell
    go_wp2_with fail
    refine (HO.out W1 H1.out (by omega) (by omega) (by omega) (by omega) (by omega) (by omega)).mono ?_
    rintro e w' ⟨rfl, rfl⟩
    cases ho : d.others m.frm now
    case true =>
      have HP := hd (show d.ask m now long = (d, { kind := 5, bal := d.bal, time := d.til - now }, false) by unfold AccS.ask; rw [if_neg (by simp [hl]), if_pos ho])
      go_wp2_with ((with_reducible refine (HRF.out _ _ H1.out).mono ?_); rintro e w' ⟨rfl, hu⟩; have hr2 := hr.upd hu (by simp); have hrc := hr2.cell; have hrz := hr2.frozen; have HR2 := hd hr2; have HU2 := hd hu; clear hu hr2)
      refine bodyPost_ret (v := .tuple #[.agg #[.int .i64 5, .int .i64 0, .int .i64 0, .int .i64 0, .int .u64 d.bal.c, .int .i64 d.bal.n, .int .i64 0, .int .i64 (d.til - now), .bool false, .string ⟨#[]⟩, .slice none 0 0], .bool false]) (by simp [results, Try.results18, go_sem, hrc]) rfl ?_
      rw [HP.out]
      have hx := Upd.refl [w.heap.size + 1] w'
      refine ⟨rfl, ?_, ?_⟩
      · exact fin_upd (k := w.heap.size + 1) ((HU1.out.trans HU2.out).mono (by simp)) (by omega) (by repeat (first | with_reducible exact hx | with_reducible exact Upd.refl _ _ | with_reducible refine Upd.alloc ?_ _ | with_reducible refine Upd.drew ?_ | with_reducible refine Upd.setCell ?_ (by first | (simp; done) | (simp; omega)) _))
      · exact fin_at (k := w.heap.size + 1) (n := 0) (H1.out.later HU2.out) (by omega) (fun g hg => by have := hol.out g hg; omega) (by repeat (first | with_reducible exact hx | with_reducible exact Upd.refl _ _ | with_reducible refine Upd.alloc ?_ _ | with_reducible refine Upd.drew ?_ | with_reducible refine Upd.setCell ?_ (by first | (simp; done) | (simp; omega)) _))
    case false =>
      go_wp2_with fail
      refine (HPR.out W1 H1.out).mono ?_
      rintro e W2 ⟨rfl, hu2, h2⟩
      have hr2 := hr.upd hu2 (by simp; omega)
      have ha2 := ha.upd hu2 (by simp; omega)
      have HU2 := hd ((HU1.out.mono (by simp) : Upd [b] w W1).trans hu2)
      have hs2 := hu2.size
      clear hac hr ha HPR HRF HO hu2
      generalize hch : (!(d.bal.c == m.bal.c && d.bal.n == m.bal.n)) = ch at *
      have hac := ha2.cell
      have hcc := h2.blk.cell
      have hzz := h2.blk.frozen
      have hrc := hr2.cell
      have hrz := hr2.frozen
      simp only [AccS.cells] at hcc
      have HR2 := hd hr2
      have HA2 := hd ha2
      have H2 := hd h2
      clear hr2 ha2 h2
      have q1 : ¬ (b = w.heap.size) := by omega
      have q2 : ¬ (w.heap.size = b) := by omega
      have q3 : ¬ (b = w.heap.size + 1) := by omega
      have q4 : ¬ (w.heap.size + 1 = b) := by omega
      have hls : w.heap.size + 2 ≤ W2.heap.size := by omega
      have hbl : b < W2.heap.size := by omega
      have hhl : w.heap.size < W2.heap.size := by omega
      generalize hLL : laterI now long = LL at *
      obtain ⟨hl0, hl1⟩ := hlb
      have hwr : IntKind.i64.wrap (m.frm + 1) = m.frm + 1 := by rw [IntKind.wrap_i64]; omega
      go_wp2_with fail
      obtain ⟨nd, hnd⟩ : ∃ nd, nd = m.frm + 1 := ⟨_, rfl⟩
      replace hwr : IntKind.i64.wrap (m.frm + 1) = nd := by rw [hwr, hnd]
      have HND := hd hnd
      clear hnd
      have n1 : ¬ (W2.heap.size = w.heap.size) := by omega
      have n2 : ¬ (w.heap.size = W2.heap.size) := by omega
      go_region_held3 (fun w' => w'.cell? ⟨w.heap.size, 1, none⟩ = some (.int .i64 m.frm)) (go_keep) (first | ((with_reducible refine (HLA.out _).mono ?_); rintro e w' ⟨rfl, rfl⟩))
      all_goals clear n1 n2
      all_goals
        have hX5 : Blk ((W2.alloc (.cells #[.int .i64 nd, .int .i64 LL] 74)).drew) W2.heap.size #[.int .i64 nd, .int .i64 LL] 74 := Blk.newd _ _ _ rfl
        have hU5 : Upd [] W2 ((W2.alloc (.cells #[.int .i64 nd, .int .i64 LL] 74)).drew) := ((Upd.refl _ _).alloc _).drew
        generalize ((W2.alloc (.cells #[.int .i64 nd, .int .i64 LL] 74)).drew) = W5 at *
        obtain ⟨gk, hgk⟩ : ∃ gk, gk = W2.heap.size := ⟨_, rfl⟩
        rw [← hgk] at hX5 ⊢
        have hge : W2.heap.size ≤ gk := by omega
        clear hgk
        have HR5 := hd (HR2.out.upd hU5 (by simp))
        have HA5 := hd (HA2.out.upd hU5 (by simp))
        have H5 := hd (H2.out.later hU5)
        have HU5 := hd (HU2.out.trans (hU5.mono (by simp)))
        have hs5 := hU5.size
        have hgl := hX5.lt
        have HX5 := hd hX5
        clear hac hcc hzz hrc hrz HR2 HA2 H2 HU2 hU5
        have hac := HA5.out.cell
        have hrc := HR5.out.cell
        have hrz := HR5.out.frozen
        have hxc := hX5.cell
        have hxz := hX5.frozen
        have hcc := H5.out.blk.cell
        have hzz := H5.out.blk.frozen
        simp only [AccS.cells] at hcc
        clear hX5
        have r1 : ¬ (b = gk) := by omega
        have r2 : ¬ (gk = b) := by omega
        have r3 : ¬ (w.heap.size = gk) := by omega
        have r4 : ¬ (gk = w.heap.size) := by omega
        have r5 : ¬ (w.heap.size + 1 = gk) := by omega
        have r6 : ¬ (gk = w.heap.size + 1) := by omega
        go_wp2_with fail
        go_region
        have hcmp : ¬ (nd = d.node) ∨ (nd = d.node ∧ LL < d.til) ∨ (nd = d.node ∧ LL = d.til) ∨ (nd = d.node ∧ d.til < LL) := by omega
        have hW6 : ∃ t : Int, (t = if nd = d.node then max LL d.til else LL) := ⟨_, rfl⟩
        obtain ⟨t, ht⟩ := hW6
        have HT := hd ht
        clear ht
        have HASK : Hd (d.ask m now long = ({ d with bal := m.bal, node := nd, til := t }, { kind := 11, bal := m.bal, time := m.time }, ch || !(nd == d.node && t == d.til))) := hd (by
          unfold AccS.ask; simp only; rw [if_neg (by simp [hl]), if_neg (by simp [ho]), hch, hLL, ← HND.out, ← HT.out])
        clear hch
        rcases hcmp with he | ⟨he, hm⟩ | ⟨he, hm⟩ | ⟨he, hm⟩
        case' inl =>
          obtain rfl : LL = t := by rw [HT.out, if_neg he]
          go_wp2_with fail
          have HX6 : Hd (Blk W5.drew gk #[.int .i64 nd, .int .i64 LL] 74) := hd HX5.out
          have hU6 : Upd [gk] W5 W5.drew := (Upd.refl _ _).drew
          generalize W5.drew = W6 at *
        case' inr.inl =>
          obtain rfl : d.til = t := by rw [HT.out, if_pos he]; omega
          subst he
          go_wp2_with fail
          go_region
          go_wp2_with fail
          have HX6 : Hd (Blk ((W5.setCell ⟨gk, 1, none⟩ (.int .i64 d.til)).drew.drew) gk #[.int .i64 d.node, .int .i64 d.til] 74) := hd (HX5.out.set 1 _)
          have hU6 : Upd [gk] W5 ((W5.setCell ⟨gk, 1, none⟩ (.int .i64 d.til)).drew.drew) := ((Upd.refl _ _).setCell (by simp) _).drew.drew
          generalize (W5.setCell ⟨gk, 1, none⟩ (.int .i64 d.til)).drew.drew = W6 at *
        case' inr.inr.inl =>
          obtain rfl : LL = t := by rw [HT.out, if_pos he]; omega
          subst he
          subst hm
          go_wp2_with fail
          go_region
          go_wp2_with fail
          have HX6 : Hd (Blk ((W5.setCell ⟨gk, 1, none⟩ (.int .i64 d.til)).drew.drew) gk #[.int .i64 d.node, .int .i64 d.til] 74) := hd (HX5.out.set 1 _)
          have hU6 : Upd [gk] W5 ((W5.setCell ⟨gk, 1, none⟩ (.int .i64 d.til)).drew.drew) := ((Upd.refl _ _).setCell (by simp) _).drew.drew
          generalize (W5.setCell ⟨gk, 1, none⟩ (.int .i64 d.til)).drew.drew = W6 at *
        case' inr.inr.inr =>
          obtain rfl : LL = t := by rw [HT.out, if_pos he]; omega
          subst he
          go_wp2_with fail
          go_region
          go_wp2_with fail
          have HX6 : Hd (Blk ((W5.setCell ⟨gk, 1, none⟩ (.int .i64 LL)).drew.drew) gk #[.int .i64 d.node, .int .i64 LL] 74) := hd (HX5.out.set 1 _)
          have hU6 : Upd [gk] W5 ((W5.setCell ⟨gk, 1, none⟩ (.int .i64 LL)).drew.drew) := ((Upd.refl _ _).setCell (by simp) _).drew.drew
          generalize (W5.setCell ⟨gk, 1, none⟩ (.int .i64 LL)).drew.drew = W6 at *
        all_goals
          have HR6 := hd (HR5.out.upd hU6 (by simp; omega))
          have HA6 := hd (HA5.out.upd hU6 (by simp; omega))
          have H6 := hd (H5.out.upd hU6 (by simp; omega) (fun g hg => by have := hol.out g hg; simp; omega))
          have HU6 := hd (HU5.out.trans' hU6 (by simp; omega))
          have hs6 := hU6.size
          clear hac hrc hrz hxc hxz hcc hzz HR5 HA5 H5 HU5 HX5 hU6
          have hac := HA6.out.cell
          have hrc := HR6.out.cell
          have hrz := HR6.out.frozen
          have hxc := HX6.out.cell
          have hcc := H6.out.blk.cell
          have hzz := H6.out.blk.frozen
          simp only [AccS.cells] at hcc
          cases ch
        all_goals
          go_wp2_with fail
          go_quiet (fail)
          go_wp2_with fail
          refine bodyPost_ret (v := _) (by simp [results, Try.results18, go_sem, hrc]; rfl) rfl ?_
          rw [HASK.out]
          refine ⟨?_, ?_, ?_⟩
          · simp [MsgS.val, msgC, *] <;> omega
          · exact fin_ask_up (W6.drewN_upd nq) HU6.out (by omega) (by omega) (upd_msg _ _ _ _ _ _ _ _ _ _ _ _ _)
          · exact fin_ask_at (d0 := { d with bal := m.bal }) (W6.drewN_upd nq) H6.out (by omega) (fun g hg => by have := hol.out g hg; omega) (upd_msg _ _ _ _ _ _ _ _ _ _ _ _ _)
end Go.Proofs.Ytfhmdeamhmjddaa

/-
  The document's acceptor (chatelaineref16), its small functions, walked: Above, others, refuse. Conditions: numbers that there may be.
-/
set_option linter.unusedVariables false
set_option linter.unusedSimpArgs false
set_option maxRecDepth 100000
namespace Go.Proofs.Ytfhmdeamhmjddaa
open Go.RowKit

theorem refAbove_any (a b : BalS) (w : World) : Calls Try.prog 76 #[.agg #[.int .u64 a.c, .int .i64 a.n], .agg #[.int .u64 b.c, .int .i64 b.n]] w fun e w' => e = .returned (.bool (decide (b.cmp a < 0))) ∧ Upd [] w w' := by
  have key : decide (b.cmp a < 0) = (decide (b.c < a.c) || (decide (a.c = b.c) && decide (b.n < a.n))) := by
    unfold BalS.cmp orI cmpI
    by_cases h1 : b.c < a.c
    · simp [h1]
    · by_cases h2 : a.c < b.c
      · have h3 : ¬ a.c = b.c := by omega
        simp [h1, h2, h3]
      · have h3 : a.c = b.c := by omega
        by_cases h4 : b.n < a.n
        · simp [h3, h4]
        · by_cases h5 : a.n < b.n <;> simp [h3, h4, h5]
  have HK := hd key
  clear key
  have hu0 := Upd.refl [] w
  go_enter Try.func76, Try.ntmps76
  by_cases h1 : b.c < a.c
  · go_wp2
    all_goals
      go_ret
      exact ⟨ret_b (by rw [HK.out]; simp [h1]), (by repeat (first | with_reducible exact hu0 | with_reducible exact Upd.refl _ _ | with_reducible refine Upd.alloc ?_ _ | with_reducible refine Upd.drew ?_ | with_reducible refine Upd.setCell ?_ (by first | (simp; done) | (simp; omega)) _))⟩
  · by_cases h2 : a.c = b.c
    · by_cases h3 : b.n < a.n
      · go_wp2
        all_goals
          go_ret
          exact ⟨ret_b (by rw [HK.out]; simp [h1, h2, h3]), (by repeat (first | with_reducible exact hu0 | with_reducible exact Upd.refl _ _ | with_reducible refine Upd.alloc ?_ _ | with_reducible refine Upd.drew ?_ | with_reducible refine Upd.setCell ?_ (by first | (simp; done) | (simp; omega)) _))⟩
      · go_wp2
        all_goals
          go_ret
          exact ⟨ret_b (by rw [HK.out]; simp [h1, h2, h3]), (by repeat (first | with_reducible exact hu0 | with_reducible exact Upd.refl _ _ | with_reducible refine Upd.alloc ?_ _ | with_reducible refine Upd.drew ?_ | with_reducible refine Upd.setCell ?_ (by first | (simp; done) | (simp; omega)) _))⟩
    · have h2' : (a.c == b.c) = false := by simpa using h2
      go_wp2
      all_goals
        go_ret
        exact ⟨ret_b (by rw [HK.out]; simp [h1, h2]), (by repeat (first | with_reducible exact hu0 | with_reducible exact Upd.refl _ _ | with_reducible refine Upd.alloc ?_ _ | with_reducible refine Upd.drew ?_ | with_reducible refine Upd.setCell ?_ (by first | (simp; done) | (simp; omega)) _))⟩

theorem refOthers_any (d : AccS) (a : Option Addr) (ln cp : Nat) (n now : Int) (w : World) (hn0 : -4611686018427387904 < n) (hn1 : n < 4611686018427387904) :
    Calls Try.prog 74 #[.agg (d.cells (.slice a ln cp)), .int .i64 n, .int .i64 now] w fun e w' => e = .returned (.bool (d.others n now)) ∧ Upd [] w w' := by
  have HO := hd (show d.others n now = (decide (d.node ≠ 0) && decide (d.node ≠ n + 1) && decide (0 < d.til - now)) from rfl)
  unfold AccS.cells
  have hu0 := Upd.refl [] w
  go_enter Try.func74, Try.ntmps74
  by_cases h0 : d.node = 0
  · go_wp2
    go_ret
    exact ⟨ret_b (by rw [HO.out]; simp [h0]), (by repeat (first | with_reducible exact hu0 | with_reducible exact Upd.refl _ _ | with_reducible refine Upd.alloc ?_ _ | with_reducible refine Upd.drew ?_ | with_reducible refine Upd.setCell ?_ (by first | (simp; done) | (simp; omega)) _))⟩
  · by_cases h1 : d.node = n + 1
    · go_wp2
      go_ret
      exact ⟨ret_b (by rw [HO.out]; simp [h0, h1]), (by repeat (first | with_reducible exact hu0 | with_reducible exact Upd.refl _ _ | with_reducible refine Upd.alloc ?_ _ | with_reducible refine Upd.drew ?_ | with_reducible refine Upd.setCell ?_ (by first | (simp; done) | (simp; omega)) _))⟩
    · have e0 : (d.node != 0) = true := by simpa using h0
      have e1 : (d.node != n + 1) = true := by simpa using h1
      by_cases h2 : now < d.til
      · have HE := hd (show d.others n now = true by rw [HO.out]; simp [h0, h1]; omega)
        go_wp2
        go_ret
        exact ⟨ret_b (by rw [HE.out]), (by repeat (first | with_reducible exact hu0 | with_reducible exact Upd.refl _ _ | with_reducible refine Upd.alloc ?_ _ | with_reducible refine Upd.drew ?_ | with_reducible refine Upd.setCell ?_ (by first | (simp; done) | (simp; omega)) _))⟩
      · have HE := hd (show d.others n now = false by rw [HO.out]; simp [h0, h1]; omega)
        go_wp2
        go_ret
        exact ⟨ret_b (by rw [HE.out]), (by repeat (first | with_reducible exact hu0 | with_reducible exact Upd.refl _ _ | with_reducible refine Upd.alloc ?_ _ | with_reducible refine Upd.drew ?_ | with_reducible refine Upd.setCell ?_ (by first | (simp; done) | (simp; omega)) _))⟩

theorem refRefuse_any (d : AccS) (a : Option Addr) (ln cp : Nat) (left : Int) (w : World) :
    Calls Try.prog 75 #[.agg (d.cells (.slice a ln cp)), .int .i64 left] w fun e w' => e = .returned (MsgS.val { kind := 5, bal := d.bal, time := left } (.slice none 0 0)) ∧ Upd [] w w' := by
  unfold AccS.cells MsgS.val msgC
  have hu0 := Upd.refl [] w
  go_enter Try.func75, Try.ntmps75
  go_wp2
  refine bodyPost_ret (v := _) (by simp [results, Try.results75, go_sem]; rfl) rfl ?_
  exact ⟨rfl, (by repeat (first | with_reducible exact hu0 | with_reducible exact Upd.refl _ _ | with_reducible refine Upd.alloc ?_ _ | with_reducible refine Upd.drew ?_ | with_reducible refine Upd.setCell ?_ (by first | (simp; done) | (simp; omega)) _))⟩
end Go.Proofs.Ytfhmdeamhmjddaa
