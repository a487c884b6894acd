/-
  The statements' do of layer 22, walked. (Under way.)
-/
import Derived.Test.YtpniggmdokkkcaaGreatDoorMb20
import Derived.BigRegion
import Derived.Test.YtpniggmdokkkcaaGreatDoorMb0
import Derived.ProofKit
import Derived.Deep.Slices
import Derived.Deep.Fields
import Derived.ChangeSame
set_option linter.unusedVariables false
set_option linter.unusedSimpArgs false
set_option maxRecDepth 100000
namespace Go.Proofs.YtpniggmdokkkcaaGreatDoor
open Go.RowKit

theorem and_low (n : Int) : bits .and .i64 n 255 = n % 256 := by
  have h255 : (BitVec.ofInt 64 255).toNat = 2 ^ 8 - 1 := by decide
  have hk : (BitVec.ofInt 64 n &&& BitVec.ofInt 64 255).toNat = (n % ((2 ^ 64 : Nat) : Int)).toNat % 2 ^ 8 := by
    rw [BitVec.toNat_and, BitVec.toNat_ofInt, h255, Nat.and_two_pow_sub_one_eq_mod]
  show IntKind.i64.wrap ((BitVec.ofInt 64 n &&& BitVec.ofInt 64 255).toNat : Nat) = n % 256
  rw [hk, IntKind.wrap_i64]
  omega
theorem ses_range (n : Int) : 1 ≤ wrap64 (1 + (bits .and .i64 n 255).tmod 9) ∧ wrap64 (1 + (bits .and .i64 n 255).tmod 9) ≤ 9 := by
  rw [and_low, Int.tmod_eq_emod_of_nonneg (by omega)]
  unfold wrap64
  omega
/-- What a call leaves: both books, in relation, and the statements' yes. -/
def DoPost (B k : Nat) (vh vw : Value) (d : BkS) (w w' : World) (r : Ending) : Prop :=
  ∃ (d' : BkS) (vh' vw' rh' rw' : Value) (lh' lw' : List RLk) (last' : Int), r = .returned (.tuple #[.agg #[rh', rw', .int .u64 last'], .bool true]) ∧ BookAt B w' k vh' vw' d' ∧ Rel d' ⟨fsts lh', fsts lw', last'⟩ ∧ RRow B w' rh' lh' ∧ RRow B w' rw' lw' ∧
    Upd (foot k vh vw) w w' ∧ (∀ g ∈ foot k vh' vw', g ∈ foot k vh vw ∨ w.heap.size ≤ g) ∧ WfB d' ∧ tot d' ≤ tot d + 1 ∧ Ses (fun z => 1 ≤ z ∧ z ≤ 9) d' ∧ CallOf d d'

theorem DoPost.later {B k : Nat} {vh vw : Value} {d : BkS} {w w' w2 : World} {r : Ending} (h : DoPost B k vh vw d w w' r) (hu : Upd [] w' w2) : DoPost B k vh vw d w w2 r := by
  obtain ⟨d', vh', vw', rh', rw', lh', lw', last', h1, h2, h3, h4, h5, h6, h7⟩ := h
  exact ⟨d', vh', vw', rh', rw', lh', lw', last', h1, h2.later hu, h3, h4.later hu, h5.later hu, h6.trans (hu.mono (by simp)), h7⟩

set_option maxHeartbeats 16000000 in
theorem do22_any {B k : Nat} {vh vw rh rw' pv : Value} {d : BkS} {lh lw : List RLk} (last kind ses : Int) (parts : List (List UInt8)) (excl wait : Bool) (w : World) (hb : BookAt B w k vh vw d) (hD : Door w) (hf : WfB d) (hs : Ses (fun z => 1 ≤ z ∧ z ≤ 9) d) (hR : Rel d ⟨fsts lh, fsts lw, last⟩) (hh : RRow B w rh lh) (hw : RRow B w rw' lw)
    (hp : TxsAt w pv parts) (hpl : ∀ x ∈ parts, x.length ≤ 9223372036854775807) (hE : 1 ∉ foot k vh vw) (hM : 0 ∉ foot k vh vw) (hB : B ≤ w.heap.size) (ht : tot d + 1 ≤ 900) (hk64 : -9223372036854775808 ≤ kind ∧ kind ≤ 9223372036854775807) (hs64 : -9223372036854775808 ≤ ses ∧ ses ≤ 9223372036854775807) :
    Calls Tryz.prog 9 #[.pointer (some ⟨k, 0, none⟩), .agg #[rh, rw', .int .u64 last], .agg #[.int .i64 kind, .int .i64 ses, pv, .bool excl, .bool wait]] w fun r w' => DoPost B k vh vw d w w' r := by
  have HMD := hd (fun W (hu : Upd [] w W) => lmade_any parts pv W (hD.later hu) (hp.upd hu) hpl)
  have HB := hd hb
  have HH := hd hh
  have HWW := hd hw
  have HRL := hd hR
  have HF := hd hf
  have HSS := hd hs
  have HDD := hd hD
  obtain ⟨a1, c1, rfl, -⟩ := own_open hh.own
  obtain ⟨a2, c2, rfl, -⟩ := own_open hw.own
  obtain ⟨pa, pc, rfl, -⟩ := hp
  have e0 := three_lk w #[.slice a1 lh.length c1, .slice a2 lw.length c2, .int .u64 last] #[.int .i64 kind, .int .i64 ses, .slice pa parts.length pc, .bool excl, .bool wait] #[.slice none 0 0, .slice none 0 0, .int .u64 0] 29 35 29
  clear hb hD hf hs hR hh hw
  go_enter Tryz.func9, Tryz.ntmps9
  go_upto_region 1 with fail
  obtain ⟨W, kb, ka, kr, hkb, hka, hkr, hW, hu, hbb, hba, hbr⟩ := e0
  rw [hW, hkb, hka, hkr]
  have HKK := hd (show w.heap.size ≤ kb ∧ w.heap.size ≤ ka ∧ w.heap.size ≤ kr from ⟨by omega, by omega, by omega⟩)
  have HU := hd hu
  have HBB := hd hbb
  have HBA := hd hba
  have HBR := hd hbr
  have hca := hba.cell
  have hla := hba.lt
  clear hW hkb hka hkr hu hbb hba hbr
  go_wp2_with fail
  refine (HMD.out W HU.out).mono ?_
  rintro r w1 ⟨u1, rfl, hu1, hr1⟩
  obtain ⟨b1, d1, rfl, -⟩ := own_open hr1
  have HU1 := hd (HU.out.trans hu1)
  have HUV := hd hu1
  have HR1 := hd hr1
  have e1 := one_lk w1 #[.string (txt (textL (mk6 parts)))] 40
  clear hu1 hr1 hca hla
  go_upto_region 2 with fail
  obtain ⟨W2, k2, hk2, hW2, hu2, hb2⟩ := e1
  rw [hW2, hk2]
  have HU2 := hd (HU1.out.trans hu2)
  have HUV2 := hd (HUV.out.trans hu2)
  have HB2 := hd hb2
  have HU12 := hd hu2
  have hca := (HBA.out.upd HUV2.out (by simp)).cell
  have hla := (HBA.out.upd HUV2.out (by simp)).lt
  clear hW2 hk2 hu2 hb2
  go_cut [10] (fun s10 wx => ∃ z : Int, s10 = .int .i64 z ∧ 1 ≤ z ∧ z ≤ 9 ∧ wx = W2)
  case first =>
    have HSR := hd (ses_range ses)
    go_wp2_with fail
    go_meet
    case rel => exact ⟨_, rfl, HSR.out.1, HSR.out.2, rfl⟩
  case rest =>
    obtain ⟨z, rfl, hz1, hz9, rfl⟩ := hcut
    rename World => W2
    have HZ := hd (And.intro hz1 hz9)
    have HBB2 := hd (HBB.out.upd HUV2.out (by simp))
    have HBR2 := hd (HBR.out.upd HUV2.out (by simp))
    clear hz1 hz9
    by_cases hk0 : kind = 0
    · subst hk0
      have h8c := HB2.out.cell
      have h8l := HB2.out.lt
      have h6 := six_of parts
      have hrel := acq_rel HRL.out ⟨z, mk6 parts, excl, 0⟩ wait h6
      have hwf0 := acq_wf HF.out HSS.out ⟨z, mk6 parts, excl, 0⟩ wait h6 HZ.out ht
      have hwf := And.intro hwf0.1 (And.intro hwf0.2.1 (And.intro hwf0.2.2 (show CallOf d (acqP insK d ⟨z, mk6 parts, excl, 0⟩ wait).1 from .inl ⟨_, wait, h6, HZ.out, rfl⟩)))
      clear hwf0
      have herr := acq_err insK d ⟨z, mk6 parts, excl, 0⟩ wait
      have hsix := acq_six HF.out ⟨z, mk6 parts, excl, 0⟩ wait h6
      have hb2 := HB.out.later HU2.out
      have hacq := acquire_any ⟨z, mk6 parts, excl, 7⟩ wait W2 hb2 HF.out h6 (HDD.out.later HU2.out) (fun e => hE (mem_foot.2 (.inl e))) (fun e => hM (mem_foot.2 (.inl e))) (by have := HU2.out.size; omega)
      rw [acq_tok insK d z _ excl 7 0] at hacq
      have hrac := fun (W : World) (v : Value) (g1 : RRow B W (.slice a1 lh.length c1) lh) (g2 : RRow B W (.slice a2 lw.length c2) lw) (g3 : StrRow B W v (mk6 parts)) (hBW : B ≤ W.heap.size) =>
        racquire_any last (⟨z, mk6 parts, excl, 0⟩, v) wait W g1 g2 g3 (fun e he => HRL.out.six e.1 (List.mem_append_left _ (List.mem_map.2 ⟨e, he, rfl⟩))) (fun e he => HRL.out.six e.1 (List.mem_append_right _ (List.mem_map.2 ⟨e, he, rfl⟩))) h6 (by
          have hq := HRL.out.perm.length_eq
          have hq2 := congrArg List.length HRL.out.waits
          simp only [fsts_length] at hq hq2
          have := HF.out.few
          omega) (by have := HF.out.low; have := HRL.out.last; simp only at this; omega) (by have := HF.out.high; have := HRL.out.last; simp only at this; omega) hBW
      unfold racqP at hrac
      simp only at hrac
      generalize acqP insK d ⟨z, mk6 parts, excl, 0⟩ wait = Q at *
      generalize acqP insE ⟨fsts lh, fsts lw, last⟩ ⟨z, mk6 parts, excl, 0⟩ wait = Q' at *
      obtain ⟨dq, ⟨s1, p1, x1, t1⟩, n1, f1⟩ := Q
      obtain ⟨⟨g1h, g1w, g1l⟩, y2, n2, f2⟩ := Q'
      simp only [Prod.mk.injEq] at hrel hwf herr hsix hacq hrac
      obtain ⟨hR1, rfl, rfl, rfl⟩ := hrel
      unfold LkS.val at hacq
      simp only at hacq
      have HA := hd hacq
      have HRA := hd hrac
      have HW1 := hd hwf
      have HER := hd herr
      have HSX := hd hsix
      have HR1' := hd hR1
      have HFK := hd (foot_kind hb2)
      have HFS := hd (fun j (hj : W2.heap.size ≤ j) => hb2.size j hj)
      have hls := HU2.out.size
      have hFo := fun j (hj : w.heap.size ≤ j) => HB.out.size j hj
      have HFO := hd hFo
      have HRR2 := hd (And.intro (HH.out.later HU2.out) (HWW.out.later HU2.out))
      have HPR2 := hd (own_mono (own_upd (L := []) HR1.out HU12.out (by simp)) (show B ≤ W.heap.size by have := HU.out.size; omega))
      have HBA2 := hd (HBA.out.upd HUV2.out (by simp))
      clear hacq hrac hwf herr hsix hR1 hb2 hFo hls
      go_wp2_with fail
      refine HA.out.mono ?_
      rintro r w3 ⟨vh3, vw3, rfl, hb3, hu3, hf3⟩
      have hkk := HKK.out
      have HB3 := hd hb3
      have HF3 := hd hf3
      have HU3 := hd ((HU2.out.mono (M := foot k vh vw) (by simp)).trans hu3)
      have HRR3 := hd (And.intro (HRR2.out.1.kept hu3 HFK.out) (HRR2.out.2.kept hu3 HFK.out))
      have HPR3 := hd (own_upd HPR2.out hu3 (fun g hg hm => by obtain ⟨c, T, hb, -, h2⟩ := HFK.out g hm; exact own_ne_any HPR2.out hb h2 g hg rfl))
      have HBB3 := hd (HBB2.out.upd hu3 (HFO.out kb hkk.1))
      have HBR3 := hd (HBR2.out.upd hu3 (HFO.out kr hkk.2.2))
      have HBA3 := hd (HBA2.out.upd hu3 (HFO.out ka hkk.2.1))
      have hca := HBA3.out.cell
      have hla := HBA3.out.lt
      have e3 := one_lk w3 #[.int .i64 s1, .string (txt (textL p1)), .bool x1, .int .u64 t1] 42
      clear hb3 hu3 hf3 HRR2 HPR2 HBB2 HBA2
      go_upto_region 6 with fail
      obtain ⟨W4, k4, hk4, hW4, hu4, hb4⟩ := e3
      rw [hW4, hk4]
      have HU4 := hd (HU3.out.trans (hu4.mono (M := foot k vh vw) (by simp)))
      have HUA := hd hu4
      have H44 := hd hb4
      have HBB4 := hd (HBB3.out.upd hu4 (by simp))
      have HBR4 := hd (HBR3.out.upd hu4 (by simp))
      have HBA4 := hd (HBA3.out.upd hu4 (by simp))
      have hca := HBA4.out.cell
      have hla := HBA4.out.lt
      have hcb := HBB4.out.cell
      have hlb := HBB4.out.lt
      have HRC := hd (HRA.out W4 (.slice b1 (mk6 parts).length d1) (HRR3.out.1.later hu4) (HRR3.out.2.later hu4) (own_upd (L := []) HPR3.out hu4 (by simp)) (by have := HU4.out.size; omega))
      unfold rval at HRC
      simp only at HRC
      clear hk4 hW4 hu4 hb4 HRA
      go_wp2_with fail
      refine HRC.out.mono ?_
      rintro r w5 ⟨lh', lw', vh5, vw5, ⟨⟨es, ep, ex, et⟩, ev⟩, rfl, heq, g1, g2, g3, g6, hu5⟩
      simp only [Prod.mk.injEq, LkS.mk.injEq] at heq
      obtain ⟨rfl, rfl, rfl, rfl, rfl, rfl⟩ := heq
      obtain ⟨i1, j1, rfl, -⟩ := own_open g1.own
      obtain ⟨i2, j2, rfl, -⟩ := own_open g2.own
      have G3 := hd g3
      obtain ⟨i3, j3, hev, -⟩ := own_open g3
      simp only at hev
      subst hev
      unfold rval
      simp only
      have HU5 := hd (HU4.out.trans (hu5.mono (M := foot k vh vw) (by simp)))
      have HUB := hd (HUA.out.trans hu5)
      have G1 := hd g1
      have G2 := hd g2
      have H45 := hd (H44.out.upd hu5 (by simp))
      have HBR5 := hd (HBR4.out.upd hu5 (by simp))
      have hc4 := H45.out.cell
      have hl4 := H45.out.lt
      have e5 := two_lk2 w5 #[.slice i1 lh'.length j1, .slice i2 lw'.length j2, .int .u64 g1l] #[.int .i64 es, .slice i3 ep.length j3, .bool ex, .int .u64 et] 29 67
      clear g1 g2 g3 g6 hu5 hca hla hcb hlb
      go_upto_region 7 with fail
      obtain ⟨W6, k14, k15, hk14, hk15, hW6, hu6, hb14, hb15⟩ := e5
      rw [hW6, hk14, hk15]
      have HU6 := hd (HU5.out.trans (hu6.mono (M := foot k vh vw) (by simp)))
      have HUC := hd (HUB.out.trans hu6)
      have H46 := hd (H45.out.upd hu6 (by simp))
      have HBR6 := hd (HBR5.out.upd hu6 (by simp))
      have hc4 := H46.out.cell
      have hc14 := hb14.cell
      have HB14 := hd hb14
      have hc15 := hb15.cell
      have hcr := HBR6.out.cell
      have hzr := HBR6.out.frozen
      have hlr := HBR6.out.lt
      have HG1 := hd (G1.out.later hu6)
      have HG2 := hd (G2.out.later hu6)
      have HG3 := hd (own_upd (L := []) G3.out hu6 (by simp))
      have hend : ∀ W9, Upd [] W6 W9 → DoPost B k vh vw d w (((W9.setCell ⟨kr, 0, none⟩ (.slice i1 lh'.length j1)).setCell ⟨kr, 1, none⟩ (.slice i2 lw'.length j2)).setCell ⟨kr, 2, none⟩ (.int .u64 g1l)) (.returned (.tuple #[.agg #[.slice i1 lh'.length j1, .slice i2 lw'.length j2, .int .u64 g1l], .bool true])) := by
        intro W9 hu9
        have hb9 := HBR6.out.upd hu9 (by simp)
        have hk9 := up3 (k := kr) (Upd.refl [kr] W9) (.inl (by simp)) (.slice i1 lh'.length j1) (.slice i2 lw'.length j2) (.int .u64 g1l)
        have hrl := (HBR2.out).lt
        refine ⟨dq, vh3, vw3, _, _, lh', lw', g1l, rfl, HB3.out.later' (((HUC.out.trans hu9).mono (M := [kr]) (by simp)).trans hk9) (fun i hi hm => ?_), HR1'.out, (HG1.out.later hu9).far hb9 (by decide) (by decide) hk9, (HG2.out.later hu9).far hb9 (by decide) (by decide) hk9, (HU6.out.trans (hu9.mono (M := foot k vh vw) (by simp))).trans' hk9 (fun i hi => .inr ?_), fun g hg => (HF3.out g hg).elim .inl (fun h => .inr (by have := HU2.out.size; omega)), HW1.out.1, HW1.out.2.1, HW1.out.2.2⟩
        · simp only [List.mem_cons, List.not_mem_nil, or_false] at hm
          subst hm
          rcases HF3.out _ hi with h | h
          · exact HFO.out _ hkk.2.2 h
          · omega
        · simp only [List.mem_cons, List.not_mem_nil, or_false] at hi
          omega
      have HEND := hd hend
      clear hk14 hk15 hW6 hu6 hb14 hb15 hl4 hend
      by_cases hf1 : f1 = 0
      · subst hf1
        have HSM := hd (fun W (hu : Upd [] W6 W) => sam22_any (C := B) ⟨es, ep, ex, et⟩ (⟨es, ep, ex, et⟩, .slice i3 ep.length j3) W (HDD.out.upd (HU6.out.trans (hu.mono (M := foot k vh vw) (by simp))) hE hM) HSX.out (own_upd (L := []) HG3.out hu (by simp)))
        rw [decide_eq_true rfl] at HSM
        unfold LkS.val rval at HSM
        simp only at HSM
        go_upto_region 9 with fail
        go_region_with (first
          | ((with_reducible refine (HSM.out _ (Upd.refl [] W6).drew).mono ?_); rintro r w7 ⟨rfl, hu7⟩; have hb7 := HBR6.out.upd ((Upd.refl [] W6).drew.trans hu7) (by simp); have hcr7 := hb7.cell; have hzr7 := hb7.frozen; have hlr7 := hb7.lt; have hc7 := (HB14.out.upd ((Upd.refl [] W6).drew.trans hu7) (by simp)).cell; have HB7 := hd hb7; have HU7 := hd ((Upd.refl [] W6).drew.trans hu7); clear hb7 hu7)
          | fail "no arm")
        all_goals
          go_wp2_with fail
          refine bodyPost_ret (res_rp _ 6 7 rfl _ _ kr (.slice i1 lh'.length j1) (.slice i2 lw'.length j2) g1l (.bool true) rfl rfl ?bkk ⟨_, _, _, rfl⟩ ⟨_, _, _, rfl⟩) rfl ?fin
          case bkk =>
            with_reducible refine putB (c0 := .slice none 0 0) (c1 := .slice none 0 0) (c2 := .int .u64 0) ?_ _ _ _
            exact HB7.out
          case fin => exact HEND.out _ HU7.out
      · have he := HER.out hf1
        unfold zeroK at he
        simp only [LkS.mk.injEq] at he
        obtain ⟨⟨rfl, rfl, rfl, rfl⟩, rfl⟩ := he
        have hf1' : (f1 != 0) = true := by simpa using hf1
        have ht0 : txt (textL []) = ⟨#[]⟩ := rfl
        rw [ht0] at hc4
        clear hf1
        go_upto_region 8 with fail
        go_region_with fail
        all_goals
          go_wp2_with fail
          refine bodyPost_ret (res_rp _ 6 7 rfl _ _ kr (.slice i1 lh'.length j1) (.slice i2 lw'.length j2) g1l (.bool true) rfl rfl ?bkk ⟨_, _, _, rfl⟩ ⟨_, _, _, rfl⟩) rfl ?fin
          case bkk =>
            with_reducible refine Blk.drew ?_
            with_reducible refine putB (c0 := .slice none 0 0) (c1 := .slice none 0 0) (c2 := .int .u64 0) ?_ _ _ _
            exact HBR6.out
          case fin => exact (HEND.out _ (Upd.refl [] W6)).later (Upd.refl [] _).drew
    · by_cases hk1 : kind = 1
      · subst hk1
        have h8c := HB2.out.cell
        have h8l := HB2.out.lt
        have h6 := six_of parts
        have hb2 := HB.out.later HU2.out
        have hrel := rel_rel HRL.out HF.out z (mk6 parts) h6
        have hwf0 := rel_wf HF.out HSS.out z (mk6 parts)
        have hwf := And.intro hwf0.1 (And.intro hwf0.2.1 (And.intro hwf0.2.2 (show CallOf d (relP insK d z (mk6 parts)).1 from .inr (.inl ⟨_, _, rfl⟩))))
        clear hwf0
        have hout := rel_out HF.out z (mk6 parts)
        rw [relR_relE] at hrel
        have hrls := release_any z (mk6 parts) W2 hb2 HF.out (HDD.out.later HU2.out) hE hM (by have := HU2.out.size; omega)
        have hrr := fun (W : World) (v : Value) (g1 : RRow B W (.slice a1 lh.length c1) lh) (g2 : RRow B W (.slice a2 lw.length c2) lw) (g3 : StrRow B W v (mk6 parts)) (hBW : B ≤ W.heap.size) =>
          rrelease_any last z (mk6 parts) W g1 g2 (row_strs g3) (fun e he => HRL.out.six e.1 (List.mem_append_left _ (List.mem_map.2 ⟨e, he, rfl⟩))) (fun e he => HRL.out.six e.1 (List.mem_append_right _ (List.mem_map.2 ⟨e, he, rfl⟩))) h6 (by
            have hq := HRL.out.perm.length_eq
            have hq2 := congrArg List.length HRL.out.waits
            simp only [fsts_length] at hq hq2
            have := HF.out.few
            omega) (by have := HF.out.low; have := HRL.out.last; simp only at this; omega) hBW
        generalize relP insK d z (mk6 parts) = Q at *
        generalize relR lh lw last z (mk6 parts) = Q' at *
        obtain ⟨dq, lq, fq⟩ := Q
        obtain ⟨⟨g1, g2, g3, g4⟩, fq'⟩ := Q'
        simp only [Prod.mk.injEq] at hrel hwf hout hrls hrr
        obtain ⟨hR1, rfl, rfl⟩ := hrel
        have HA := hd hrls
        have HRA := hd hrr
        have HW1 := hd hwf
        have HOUT := hd hout
        have HR1' := hd hR1
        have HFK := hd (foot_kind hb2)
        have hFo := fun j (hj : w.heap.size ≤ j) => HB.out.size j hj
        have HFO := hd hFo
        have HRR2 := hd (And.intro (HH.out.later HU2.out) (HWW.out.later HU2.out))
        have HPR2 := hd (own_mono (own_upd (L := []) HR1.out HU12.out (by simp)) (show B ≤ W.heap.size by have := HU.out.size; omega))
        clear hrls hrr hwf hout hR1 hb2 hFo
        go_wp2_with fail
        refine HA.out.mono ?_
        rintro r w3 ⟨vh3, vw3, vo3, rfl, hb3, ho3, hu3, hf3⟩
        have hkk := HKK.out
        have HB3 := hd hb3
        have HF3 := hd hf3
        have HO3 := hd (row_lks ho3)
        obtain ⟨i0, j0, rfl, -⟩ := own_open ho3
        have HU3 := hd ((HU2.out.mono (M := foot k vh vw) (by simp)).trans hu3)
        have HRR3 := hd (And.intro (HRR2.out.1.kept hu3 HFK.out) (HRR2.out.2.kept hu3 HFK.out))
        have HPR3 := hd (own_upd HPR2.out hu3 (fun g hg hm => by obtain ⟨c, T, hb, -, h2⟩ := HFK.out g hm; exact own_ne_any HPR2.out hb h2 g hg rfl))
        have HBR3 := hd (HBR2.out.upd hu3 (HFO.out kr hkk.2.2))
        have hbb3 := HBB2.out.upd hu3 (HFO.out kb hkk.1)
        have hcb := hbb3.cell
        have hlb := hbb3.lt
        have HRC := hd (HRA.out w3 (.slice b1 (mk6 parts).length d1) HRR3.out.1 HRR3.out.2 HPR3.out (by have := HU3.out.size; omega))
        clear hb3 hu3 hf3 ho3 HRR2 HPR2 HBB2 hbb3 HRA
        go_wp2_with fail
        refine HRC.out.mono ?_
        rintro r w5 ⟨vh5, vw5, vo5, rfl, q1, q2, q3, hu5⟩
        obtain ⟨i1, j1, rfl, -⟩ := own_open q1.own
        obtain ⟨i2, j2, rfl, -⟩ := own_open q2.own
        have G3 := hd q3
        obtain ⟨i3, j3, rfl, -⟩ := own_open q3.own
        have HU5 := hd (HU3.out.trans (hu5.mono (M := foot k vh vw) (by simp)))
        have HUB := hd hu5
        have G1 := hd q1
        have G2 := hd q2
        have HBR5 := hd (HBR3.out.upd hu5 (by simp))
        have e5 := one_lk w5 #[.slice i1 g1.length j1, .slice i2 g4.length j2, .int .u64 g2] 29
        clear q1 q2 q3 hu5 hcb hlb
        go_upto_region 13 with fail
        obtain ⟨W6, k20, hk20, hW6, hu6, hb20⟩ := e5
        rw [hW6, hk20]
        have HU6 := hd (HU5.out.trans (hu6.mono (M := foot k vh vw) (by simp)))
        have HUC := hd (HUB.out.trans hu6)
        have HBR6 := hd (HBR5.out.upd hu6 (by simp))
        have hc20 := hb20.cell
        have HB20 := hd hb20
        have hcr := HBR6.out.cell
        have hzr := HBR6.out.frozen
        have hlr := HBR6.out.lt
        have HG1 := hd (G1.out.later hu6)
        have HG2 := hd (G2.out.later hu6)
        have HAL := hd (fun W (hu : Upd [] W6 W) => all22_any (C := B) W (HDD.out.upd (HU6.out.trans (hu.mono (M := foot k vh vw) (by simp))) hE hM) (HO3.out.later (HUC.out.trans hu)) (G3.out.later (hu6.trans hu)) HOUT.out)
        rw [decide_eq_true rfl] at HAL
        have hend : ∀ W9, Upd [] W6 W9 → DoPost B k vh vw d w (((W9.setCell ⟨kr, 0, none⟩ (.slice i1 g1.length j1)).setCell ⟨kr, 1, none⟩ (.slice i2 g4.length j2)).setCell ⟨kr, 2, none⟩ (.int .u64 g2)) (.returned (.tuple #[.agg #[.slice i1 g1.length j1, .slice i2 g4.length j2, .int .u64 g2], .bool true])) := by
          intro W9 hu9
          have hb9 := HBR6.out.upd hu9 (by simp)
          have hk9 := up3 (k := kr) (Upd.refl [kr] W9) (.inl (by simp)) (.slice i1 g1.length j1) (.slice i2 g4.length j2) (.int .u64 g2)
          have hrl := (HBR2.out).lt
          refine ⟨dq, vh3, vw3, _, _, g1, g4, g2, rfl, HB3.out.later' (((HUC.out.trans hu9).mono (M := [kr]) (by simp)).trans hk9) (fun i hi hm => ?_), HR1'.out, (HG1.out.later hu9).far hb9 (by decide) (by decide) hk9, (HG2.out.later hu9).far hb9 (by decide) (by decide) hk9, (HU6.out.trans (hu9.mono (M := foot k vh vw) (by simp))).trans' hk9 (fun i hi => .inr ?_), fun g hg => (HF3.out g hg).elim .inl (fun h => .inr (by have := HU2.out.size; omega)), HW1.out.1, (by have := HW1.out.2.1; omega), HW1.out.2.2⟩
          · simp only [List.mem_cons, List.not_mem_nil, or_false] at hm
            subst hm
            rcases HF3.out _ hi with h | h
            · exact HFO.out _ hkk.2.2 h
            · omega
          · simp only [List.mem_cons, List.not_mem_nil, or_false] at hi
            omega
        have HEND := hd hend
        have HQQ := hd (fsts_length g3)
        rw [HQQ.out] at HAL ⊢
        clear hk20 hW6 hu6 hb20 hend
        go_region_with (first
          | ((with_reducible refine (HAL.out _ (Upd.refl [] W6).drew).mono ?_); rintro r w7 ⟨rfl, hu7⟩; have hb7 := HBR6.out.upd ((Upd.refl [] W6).drew.trans hu7) (by simp); have hcr7 := hb7.cell; have hzr7 := hb7.frozen; have hlr7 := hb7.lt; have hc7 := (HB20.out.upd ((Upd.refl [] W6).drew.trans hu7) (by simp)).cell; have HB7 := hd hb7; have HU7 := hd ((Upd.refl [] W6).drew.trans hu7); clear hb7 hu7)
          | fail "no arm")
        all_goals
          go_wp2_with fail
          refine bodyPost_ret (res_rp _ 6 7 rfl _ _ kr (.slice i1 g1.length j1) (.slice i2 g4.length j2) g2 (.bool true) rfl rfl ?bkk ⟨_, _, _, rfl⟩ ⟨_, _, _, rfl⟩) rfl ?fin
          case bkk =>
            with_reducible refine putB (c0 := .slice none 0 0) (c1 := .slice none 0 0) (c2 := .int .u64 0) ?_ _ _ _
            exact HB7.out
          case fin => exact HEND.out _ HU7.out
      · by_cases hk2 : kind = 2
        · subst hk2
          have h6 := six_of parts
          have hb2 := HB.out.later HU2.out
          have hrel := drp_rel HRL.out HF.out z
          have hwf0 := drp_wf HF.out HSS.out z
          have hwf := And.intro hwf0.1 (And.intro hwf0.2.1 (And.intro hwf0.2.2 (show CallOf d (drpP insK d z).1 from .inr (.inr (.inl ⟨_, rfl⟩)))))
          clear hwf0
          have hout := drp_out HF.out z
          rw [rdrop_drpP] at hrel
          have hrls := bdrop_any z W2 hb2 HF.out (HDD.out.later HU2.out) hE hM (by have := HU2.out.size; omega)
          have hrr := fun (W : World) (g1 : RRow B W (.slice a1 lh.length c1) lh) (g2 : RRow B W (.slice a2 lw.length c2) lw) (hBW : B ≤ W.heap.size) =>
            rdrop_any last z W g1 g2 (fun e he => HRL.out.six e.1 (List.mem_append_left _ (List.mem_map.2 ⟨e, he, rfl⟩))) (fun e he => HRL.out.six e.1 (List.mem_append_right _ (List.mem_map.2 ⟨e, he, rfl⟩))) (by
              have hq := HRL.out.perm.length_eq
              have hq2 := congrArg List.length HRL.out.waits
              simp only [fsts_length] at hq hq2
              have := HF.out.few
              omega) (by have := HF.out.low; have := HRL.out.last; simp only at this; omega) hBW
          generalize drpP insK d z = Q at *
          generalize rst (rkeep ⟨z, [], false, 0⟩ true lh) (rkeep ⟨z, [], false, 0⟩ true lw) last (rkeep ⟨z, [], false, 0⟩ true lw).length = Q' at *
          obtain ⟨dq, lq⟩ := Q
          obtain ⟨g1, g2, g3, g4⟩ := Q'
          simp only [Prod.mk.injEq] at hrel hwf hout hrls hrr
          obtain ⟨hR1, rfl⟩ := hrel
          have HA := hd hrls
          have HRA := hd hrr
          have HW1 := hd hwf
          have HOUT := hd hout
          have HR1' := hd hR1
          have HFK := hd (foot_kind hb2)
          have hFo := fun j (hj : w.heap.size ≤ j) => HB.out.size j hj
          have HFO := hd hFo
          have HRR2 := hd (And.intro (HH.out.later HU2.out) (HWW.out.later HU2.out))
          clear hrls hrr hwf hout hR1 hb2 hFo
          go_wp2_with fail
          refine HA.out.mono ?_
          rintro r w3 ⟨vh3, vw3, vo3, rfl, hb3, ho3, hu3, hf3⟩
          have hkk := HKK.out
          have HB3 := hd hb3
          have HF3 := hd hf3
          have HO3 := hd (row_lks ho3)
          obtain ⟨i0, j0, rfl, -⟩ := own_open ho3
          have HU3 := hd ((HU2.out.mono (M := foot k vh vw) (by simp)).trans hu3)
          have HRR3 := hd (And.intro (HRR2.out.1.kept hu3 HFK.out) (HRR2.out.2.kept hu3 HFK.out))
          have HBR3 := hd (HBR2.out.upd hu3 (HFO.out kr hkk.2.2))
          have hbb3 := HBB2.out.upd hu3 (HFO.out kb hkk.1)
          have hcb := hbb3.cell
          have hlb := hbb3.lt
          have HRC := hd (HRA.out w3 HRR3.out.1 HRR3.out.2 (by have := HU3.out.size; omega))
          clear hb3 hu3 hf3 ho3 HRR2 HBB2 hbb3 HRA
          go_wp2_with fail
          refine HRC.out.mono ?_
          rintro r w5 ⟨vh5, vw5, vo5, R, rfl, rfl, q1, q2, q3, hu5⟩
          obtain ⟨i1, j1, rfl, -⟩ := own_open q1.own
          obtain ⟨i2, j2, rfl, -⟩ := own_open q2.own
          have G3 := hd q3
          obtain ⟨i3, j3, rfl, -⟩ := own_open q3.own
          have HU5 := hd (HU3.out.trans (hu5.mono (M := foot k vh vw) (by simp)))
          have HUB := hd hu5
          have G1 := hd q1
          have G2 := hd q2
          have HBR5 := hd (HBR3.out.upd hu5 (by simp))
          have e5 := one_lk w5 #[.slice i1 g1.length j1, .slice i2 g4.length j2, .int .u64 g2] 29
          clear q1 q2 q3 hu5 hcb hlb
          go_upto_region 17 with fail
          obtain ⟨W6, k20, hk20, hW6, hu6, hb20⟩ := e5
          rw [hW6, hk20]
          have HU6 := hd (HU5.out.trans (hu6.mono (M := foot k vh vw) (by simp)))
          have HUC := hd (HUB.out.trans hu6)
          have HBR6 := hd (HBR5.out.upd hu6 (by simp))
          have hc20 := hb20.cell
          have HB20 := hd hb20
          have hcr := HBR6.out.cell
          have hzr := HBR6.out.frozen
          have hlr := HBR6.out.lt
          have HG1 := hd (G1.out.later hu6)
          have HG2 := hd (G2.out.later hu6)
          have HAL := hd (fun W (hu : Upd [] W6 W) => all22_any (C := B) W (HDD.out.upd (HU6.out.trans (hu.mono (M := foot k vh vw) (by simp))) hE hM) (HO3.out.later (HUC.out.trans hu)) (G3.out.later (hu6.trans hu)) HOUT.out)
          rw [decide_eq_true rfl] at HAL
          have hend : ∀ W9, Upd [] W6 W9 → DoPost B k vh vw d w (((W9.setCell ⟨kr, 0, none⟩ (.slice i1 g1.length j1)).setCell ⟨kr, 1, none⟩ (.slice i2 g4.length j2)).setCell ⟨kr, 2, none⟩ (.int .u64 g2)) (.returned (.tuple #[.agg #[.slice i1 g1.length j1, .slice i2 g4.length j2, .int .u64 g2], .bool true])) := by
            intro W9 hu9
            have hb9 := HBR6.out.upd hu9 (by simp)
            have hk9 := up3 (k := kr) (Upd.refl [kr] W9) (.inl (by simp)) (.slice i1 g1.length j1) (.slice i2 g4.length j2) (.int .u64 g2)
            have hrl := (HBR2.out).lt
            refine ⟨dq, vh3, vw3, _, _, g1, g4, g2, rfl, HB3.out.later' (((HUC.out.trans hu9).mono (M := [kr]) (by simp)).trans hk9) (fun i hi hm => ?_), HR1'.out, (HG1.out.later hu9).far hb9 (by decide) (by decide) hk9, (HG2.out.later hu9).far hb9 (by decide) (by decide) hk9, (HU6.out.trans (hu9.mono (M := foot k vh vw) (by simp))).trans' hk9 (fun i hi => .inr ?_), fun g hg => (HF3.out g hg).elim .inl (fun h => .inr (by have := HU2.out.size; omega)), HW1.out.1, (by have := HW1.out.2.1; omega), HW1.out.2.2⟩
            · simp only [List.mem_cons, List.not_mem_nil, or_false] at hm
              subst hm
              rcases HF3.out _ hi with h | h
              · exact HFO.out _ hkk.2.2 h
              · omega
            · simp only [List.mem_cons, List.not_mem_nil, or_false] at hi
              omega
          have HEND := hd hend
          have HQQ := hd (fsts_length g3)
          rw [HQQ.out] at HAL ⊢
          clear hk20 hW6 hu6 hb20 hend
          go_region_with (first
            | ((with_reducible refine (HAL.out _ (Upd.refl [] W6).drew).mono ?_); rintro r w7 ⟨rfl, hu7⟩; have hb7 := HBR6.out.upd ((Upd.refl [] W6).drew.trans hu7) (by simp); have hcr7 := hb7.cell; have hzr7 := hb7.frozen; have hlr7 := hb7.lt; have hc7 := (HB20.out.upd ((Upd.refl [] W6).drew.trans hu7) (by simp)).cell; have HB7 := hd hb7; have HU7 := hd ((Upd.refl [] W6).drew.trans hu7); clear hb7 hu7)
            | fail "no arm")
          all_goals
            go_wp2_with fail
            refine bodyPost_ret (res_rp _ 6 7 rfl _ _ kr (.slice i1 g1.length j1) (.slice i2 g4.length j2) g2 (.bool true) rfl rfl ?bkk ⟨_, _, _, rfl⟩ ⟨_, _, _, rfl⟩) rfl ?fin
            case bkk =>
              with_reducible refine putB (c0 := .slice none 0 0) (c1 := .slice none 0 0) (c2 := .int .u64 0) ?_ _ _ _
              exact HB7.out
            case fin => exact HEND.out _ HU7.out
        · have q0 : (kind == 0) = false := by simpa using hk0
          have q1 : (kind == 1) = false := by simpa using hk1
          have q2 : (kind == 2) = false := by simpa using hk2
          have hbc := HBB2.out.cell
          have hrc := HBR2.out.cell
          have hrz := HBR2.out.frozen
          have hrl := HBR2.out.lt
          clear hk0 hk1 hk2
          go_wp2_with fail
          have hkk := HKK.out
          refine bodyPost_ret (res_rp _ 6 7 rfl _ _ kr (.slice a1 lh.length c1) (.slice a2 lw.length c2) last (.bool true) rfl rfl ?bkk ⟨_, _, _, rfl⟩ ⟨_, _, _, rfl⟩) rfl ?fin
          case bkk =>
            with_reducible refine putB (c0 := .slice none 0 0) (c1 := .slice none 0 0) (c2 := .int .u64 0) ?_ _ _ _
            exact HBR2.out
          case fin =>
            have h := up3 HU2.out (.inr hkk.2.2) (.slice a1 lh.length c1) (.slice a2 lw.length c2) (.int .u64 last)
            exact ⟨d, vh, vw, _, _, lh, lw, last, rfl, HB.out.later h, HRL.out, HH.out.later h, HWW.out.later h, h.mono (by simp), fun g hg => .inl hg, HF.out, by omega, HSS.out, .inr (.inr (.inr rfl))⟩
end Go.Proofs.YtpniggmdokkkcaaGreatDoor

/-
  How arguments that came in read in memory: slices of structs of one-cell fields, slices of whole numbers. No condition beyond those that each theorem states.
-/
set_option linter.unusedVariables false
set_option linter.unusedSimpArgs false
namespace Go.Proofs.YtpniggmdokkkcaaGreatDoor
open Go.ChangeShapes Go.WideShapes Go.Deep Go.RowKit
section
variable {H : Type} {enc : TypeId × Value → H} {P : Program} {w : World} {base : Nat} {spare : Nat → Bool} {held : Bool}

/-- A slice of structs of one-cell fields: every field of every element. -/
theorem slice_fields {t e : TypeId} {fs : Array Field} {fuel : Nat} {cs : List Value} {x : DataW H × List MemPlace} (ht : P.underlying t = some (.slice e)) (he : P.underlying e = some (.struct fs))
    (hone : oneCellFields P fs = true) (hC : P.cellsOf e = fs.size) (h : DataW.trod enc P w base spare held fuel t cs = some x) :
    ∃ (a : Option Addr) (len cap : Nat), cs = [.slice a len cap] ∧ len ≤ cap ∧ cap ≤ maxLen ∧ (0 < len → ∃ b, a = some b ∧
      ∀ i, i < len → ∀ (j : Nat) (f : Field), fs[j]? = some f → ∃ (v : Value) (y : DataW H × List MemPlace) (n : Nat), w.cell? (b.add (i * fs.size + j)) = some v ∧ DataW.trod enc P w base spare held n f.type [v] = some y) := by
  rcases open_slice ht h with ⟨hcs, _⟩ | ⟨a, len, cap, m, n, D, Pl, hcs, hb, hl, hm, hmm, hx, hi⟩
  · exact ⟨none, 0, 0, hcs, by omega, by unfold maxLen; omega, by omega⟩
  · refine ⟨some a, len, cap, hcs, hl, hm, fun _ => ⟨a, rfl, fun i him j f hj => ?_⟩⟩
    obtain ⟨cs', hc, ht'⟩ := hi i (by rw [hmm]; split <;> omega)
    rw [hC] at hc
    obtain ⟨ys, n', hn', hy, hlen, hyl, hf⟩ := DataW.trod_struct he ht'
    obtain ⟨_, hcl, hat⟩ := World.cells?_some hc
    obtain ⟨ho, hk⟩ := hone_of hone j f hj
    have hjl : j < fs.size := (Array.getElem?_eq_some_iff.1 hj).1
    have hcell := hat j hjl
    have hv : cs'[j]? = some (cs'[j]'(by omega)) := List.getElem?_eq_getElem (by omega)
    have h1 := hf j f hj
    rw [ho, hk] at h1
    have hone' : (cs'.drop j).take 1 = [cs'[j]'(by omega)] := by
      rw [List.drop_eq_getElem_cons (by omega)]
      rfl
    rw [hone'] at h1
    have hys : ys[j]? = some (ys[j]'(by omega)) := List.getElem?_eq_getElem (by omega)
    refine ⟨cs'[j]'(by omega), ys[j]'(by omega), n', ?_, h1.trans hys⟩
    rw [← Go.Deep.add_add, hcell, hv]

theorem addr_add {b : Addr} {n : Nat} {v : Value} (h : w.cell? (b.add n) = some v) : b.add n = ⟨b.block, b.off + n, none⟩ := by
  have hs := World.cell?_spot h
  unfold Addr.add at *
  split
  · rename_i h0
    rw [if_pos h0] at hs
    subst h0
    obtain ⟨bb, bo, bs⟩ := b
    simp only at hs
    subst hs
    rfl
  · rfl

/-- A slice of ints reads as one, wherever its cells lie. -/
theorem ints_at {t e : TypeId} {fuel : Nat} {v : Value} {x : DataW H × List MemPlace} (ht : P.underlying t = some (.slice e)) (he : P.underlying e = some (.int .i64)) (hC : P.cellsOf e = 1)
    (h : DataW.trod enc P w base spare held fuel t [v] = some x) : ∃ cs, ∀ b, w.heap.size ≤ b → IntsAt b w v cs := by
  rcases open_ints ht he hC h with ⟨hcs, _⟩ | ⟨a, len, cap, zs, hcs, _, hl, hm, hz, _, hcell, hwz⟩
  · simp at hcs
    subst hcs
    exact ⟨[], fun b _ => ⟨none, 0, rfl, by simp, by omega, by simp⟩⟩
  · simp at hcs
    subst hcs
    have hzl : len ≤ zs.length := by
      have : (if spare a.block = true then cap else len) = zs.length := by first | exact hz.symm | exact hz | simpa using hz.symm
      rw [← this]; split <;> omega
    refine ⟨zs.take len, fun b hb => ⟨some a, cap, by simp [List.length_take, Nat.min_eq_left hzl], by simp [List.length_take]; omega, by simpa [maxLen] using hm, fun hne => ?_⟩⟩
    have h0 : 0 < len := by
      rcases Nat.eq_zero_or_pos len with e0 | e0
      · subst e0; simp at hne
      · exact e0
    have hc0 := hcell 0 (by omega)
    have e0 := addr_add hc0
    refine ⟨a.block, a.off, ?_, ?_, ?_, fun i hi => ?_⟩
    · have hs := World.cell?_spot hc0
      obtain ⟨bb, bo, bs⟩ := a
      simp [Addr.add] at hs
      subst hs
      rfl
    · have := World.block_lt_of_cell? w _ hc0
      rw [e0] at this
      simp only at this
      omega
    · have := World.block_lt_of_cell? w _ hc0
      rw [e0] at this
      exact this
    · simp only [List.length_take] at hi
      have hci := hcell i (by omega)
      rw [addr_add hci] at hci
      rw [hci]
      simp [List.getD, List.getElem?_take, show i < len by omega]
end
end Go.Proofs.YtpniggmdokkkcaaGreatDoor
