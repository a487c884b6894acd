/-
  accept.Acceptor.Accept where the ballot is low; chatelainelaw16.awake, walked. Condition: the ballot is low.
-/
import Derived.Test.YtfhmdeamhmjddaaAcc5
set_option linter.unusedVariables false
set_option linter.unusedSimpArgs false
set_option maxRecDepth 100000
namespace Go.Proofs.Ytfhmdeamhmjddaa
open Go.RowKit

set_option maxHeartbeats 2000000 in
theorem accept_low_any (B b : Nat) (l : Value) (d : AccS) (m : MsgS) (ma : Option Addr) (mn mc : Nat) (w : World) (h : AccAt B w b l d) (hl : d.low m.bal = true) :
    Calls Try.prog 17 #[.pointer (some ⟨b, 0, none⟩), m.val (.slice ma mn mc)] w fun e w' =>
      e = .returned (.tuple #[MsgS.val { kind := 5, bal := d.bal } (.slice none 0 0), .bool false]) ∧ Upd [] w w' := by
  have hlt := h.blk.lt
  have e2 := two_new w (msgC m (.slice ma mn mc)) (msgC {} (.slice none 0 0)) 41
  have hlo := low_any B b l d m.bal
  have hrf := refuse_any B b l d
  unfold MsgS.val at hrf
  simp only [msgC] at e2 hrf
  rw [show m.val (.slice ma mn mc) = .agg #[.int .i64 m.kind, .int .i64 m.frm, .int .i64 m.to, .int .i64 m.sub, .int .u64 m.bal.c, .int .i64 m.bal.n, .int .i64 m.slot, .int .i64 m.time, .bool m.okb, .string m.text, .slice ma mn mc] from rfl]
  go_enter Try.func17, Try.ntmps17
  go_wp2_with fail
  obtain ⟨W, hW, hu, hA, hR, hsz⟩ := e2
  rw [hW]
  have H := hd (h.later hu)
  have HU := hd hu
  have HA := hd hA
  have HR := hd hR
  have HL := hd hlo
  have HRF := hd hrf
  clear hW hu h hA hR hlo hrf
  rw [show m.bal.val = .agg #[.int .u64 m.bal.c, .int .i64 m.bal.n] from rfl] at HL
  refine (HL.out W H.out).mono ?_
  rintro e W1 ⟨rfl, hu1⟩
  rw [hl]
  have hr := HR.out.upd hu1 (by simp)
  have H1 := hd (H.out.later hu1)
  have HU1 := hd (HU.out.trans hu1)
  have hs1 := hu1.size
  clear hu1
  have hrc := hr.cell
  have hrz := hr.frozen
  go_wp2_with ((with_reducible refine (HRF.out _ _ H1.out).mono ?_); rintro e w' ⟨rfl, hu⟩; have hr2 := hr.upd hu (by simp); have hrc := hr2.cell; have hrz := hr2.frozen; have HR2 := hd hr2; have HU2 := hd hu; clear hu hr2)
  refine bodyPost_ret (v := .tuple #[.agg #[.int .i64 5, .int .i64 0, .int .i64 0, .int .i64 0, .int .u64 d.bal.c, .int .i64 d.bal.n, .int .i64 0, .int .i64 0, .bool false, .string ⟨#[]⟩, .slice none 0 0], .bool false]) (by simp [results, Try.results17, go_sem, hrc]) rfl ?_
  have hx := Upd.refl [w.heap.size + 1] w'
  exact ⟨rfl, fin_upd (k := w.heap.size + 1) (HU1.out.trans HU2.out) (by omega) (by repeat (first | with_reducible exact hx | with_reducible exact Upd.refl _ _ | with_reducible refine Upd.alloc ?_ _ | with_reducible refine Upd.drew ?_ | with_reducible refine Upd.setCell ?_ (by first | (simp; done) | (simp; omega)) _))⟩

def aw1 : AccS := ⟨false, ⟨2, 1⟩, 0, [], 0, 0⟩
theorem aw_prep : (acc0 false).prepare { frm := 1, bal := ⟨2, 1⟩ } 0 = (aw1, { kind := 2, bal := ⟨2, 1⟩, slot := 0 }, [], true) := by kernel_rfl
theorem aw_low : aw1.low ⟨1, 0⟩ = true := by kernel_rfl
theorem acc0_fine (wit : Bool) : (acc0 wit).fine := ⟨⟨by simp [acc0], fun e he => by simp [acc0] at he, by simp [acc0]⟩, by simp [acc0], by simp [acc0], by simp [acc0], by simp [acc0], by simp [acc0], by simp [acc0]⟩

set_option maxHeartbeats 2000000 in
theorem awake_any (w : World) : Calls Try.prog 8 #[] w fun e w' => e = .returned (.bool true) ∧ Upd [] w w' := by
  go_enter Try.func8, Try.ntmps8
  go_wp2_with fail
  refine (anew_any false w).mono ?_
  rintro e w1 ⟨rfl, hu1, h1, hlt⟩
  have HU1 := hd hu1
  have H1 := hd h1
  clear hu1 h1
  go_wp2_with fail
  refine (prepare_any w.heap.size w.heap.size _ (acc0 false) { frm := 1, bal := ⟨2, 1⟩ } none 0 0 0 w1 H1.out (acc0_fine false) (by unfold SlotIn; simp) (by unfold TimeIn; simp) (by unfold TimeIn; simp)).mono ?_
  rintro e w2 ⟨v', rfl, hu2, h2, ho2⟩
  rw [aw_prep] at h2 ho2 ⊢
  obtain ⟨xa, xc, rfl, -⟩ := own_open ho2
  unfold MsgS.val msgC
  have HU2 := hd hu2
  have H2 := hd h2
  have hs2 := hu2.size
  clear hu2 h2 ho2
  go_wp2_with fail
  have hw2 := hd (Blk.new w2 #[.int .i64 2, .int .i64 0, .int .i64 0, .int .i64 0, .int .u64 2, .int .i64 1, .int .i64 0, .int .i64 0, .bool false, .string ⟨#[]⟩, .slice xa 0 xc] 41)
  refine (accept_low_any w.heap.size w.heap.size _ aw1 { bal := ⟨1, 0⟩, slot := 1 } none 0 0 _ (H2.out.alloc _) aw_low).mono ?_
  rintro e w3 ⟨rfl, hu3⟩
  have hw3 := hw2.out.upd hu3 (by simp)
  have hc3 := hw3.cell
  have hl3 := hw3.lt
  have HU3 := hd hu3
  clear hu3 hw3 hw2
  unfold MsgS.val msgC
  simp only [aw1]
  go_wp2_with fail
  go_ret
  refine ⟨rfl, ?_⟩
  have hu2 : Upd [w.heap.size] w w2 := (HU1.out.mono (by simp)).trans HU2.out
  have hu3 : Upd [w.heap.size] w w3 := hu2.trans (((Upd.refl [] _).alloc _).trans HU3.out |>.mono (by simp))
  exact (hu3.alloc _).mono (by simp)
end Go.Proofs.Ytfhmdeamhmjddaa
