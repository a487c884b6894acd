/-
  Release of the document's book, walked. Conditions: good paths; few locks.
-/
import Derived.Test.YtpniggmdokkkcaaGreatDoorMb15
set_option linter.unusedVariables false
set_option linter.unusedSimpArgs false
set_option maxRecDepth 100000
namespace Go.Proofs.YtpniggmdokkkcaaGreatDoor
open Go.RowKit

theorem res_rp3 (fn : Func) (s t u : Nat) (hr : fn.results = #[.cell s 29, .tmp t, .tmp u]) (tmps : Array Value) (W : World) (k : Nat) (vh vw : Value) (last : Int) (v v' : Value) (hs : tmps[s]? = some (.pointer (some ⟨k, 0, none⟩))) (ht : tmps[t]? = some v) (hu : tmps[u]? = some v')
    (h : Blk W k #[vh, vw, .int .u64 last] 29) (h1 : ∃ a n c, vh = .slice a n c) (h2 : ∃ a n c, vw = .slice a n c) :
    (results fn tmps).run Tryz.prog W = .ok (.tuple #[.agg #[vh, vw, .int .u64 last], v, v']) W := by
  simp [results, hr, hs, ht, hu, asAddr, load_rb W k vh vw last h h1 h2]
def relR (lh lw : List RLk) (last s : Int) (p : List (List UInt8)) : RSt × Int :=
  if (findB ⟨lh.map Prod.fst, lw.map Prod.fst, last⟩ ⟨s, p, false, 0⟩).2 < 0 then (⟨lh, last, [], lw⟩, 20)
  else (rst (rkeep ⟨s, p, false, 0⟩ false lh) (rkeep ⟨s, p, false, 0⟩ false lw) last (rkeep ⟨s, p, false, 0⟩ false lw).length, 0)
/-- Three rows live on where one block of another kind turns. -/
theorem three_far {B : Nat} {w w' : World} {k : Nat} {c : Array Value} {T : TypeId} {v1 v2 v3 : Value} {l1 l2 l3 : List RLk} (hb : Blk w k c T) (h1 : 67 ≠ T) (h2 : 9 ≠ T) (g1 : RRow B w v1 l1) (g2 : RRow B w v2 l2) (g3 : RRow B w v3 l3) (hu : Upd [k] w w') : RRow B w' v1 l1 ∧ RRow B w' v2 l2 ∧ RRow B w' v3 l3 :=
  ⟨g1.far hb h1 h2 hu, g2.far hb h1 h2 hu, g3.far hb h1 h2 hu⟩
theorem up3 {L : List Nat} {w W : World} {k : Nat} (h : Upd L w W) (hk : k ∈ L ∨ w.heap.size ≤ k) (a b c : Value) : Upd L w (((W.setCell ⟨k, 0, none⟩ a).setCell ⟨k, 1, none⟩ b).setCell ⟨k, 2, none⟩ c) :=
  ((h.setCell (p := ⟨k, 0, none⟩) hk a).setCell (p := ⟨k, 1, none⟩) hk b).setCell (p := ⟨k, 2, none⟩) hk c

set_option maxHeartbeats 8000000 in
theorem rrelease_any {B : Nat} {vh vw vp : Value} {lh lw : List RLk} (last s : Int) (p : List (List UInt8)) (w : World) (hh : RRow B w vh lh) (hw : RRow B w vw lw) (hp : TxsAt w vp p) (h61 : ∀ e ∈ lh, Six e.1.path) (h62 : ∀ e ∈ lw, Six e.1.path) (hp6 : Six p) (hl : lh.length + lw.length ≤ 900) (h0 : 0 ≤ last) (hB : B ≤ w.heap.size) :
    Calls Tryz.prog 25 #[.agg #[vh, vw, .int .u64 last], .int .i64 s, vp] w fun r w' =>
      ∃ vh' vw' vo, r = .returned (.tuple #[.agg #[vh', vw', .int .u64 (relR lh lw last s p).1.last], vo, .int .i64 (relR lh lw last s p).2]) ∧ RRow B w' vh' (relR lh lw last s p).1.held ∧ RRow B w' vw' (relR lh lw last s p).1.left ∧ RRow B w' vo (relR lh lw last s p).1.out ∧ Upd [] w w' := by
  have HFD := hd (fun W (hu : Upd [] w W) => rfind_any (B := B) last s p W (hh.later hu) (hw.later hu) (hp.upd hu) h61 h62 hp6)
  have HW1 := hd (fun W (hu : Upd [] w W) => rwithout_any (B := B) s false p W (hh.later hu) (hp.upd hu) h61 hp6 (by omega) (by have := hu.size; omega))
  have HW2 := hd (fun W (hu : Upd [] w W) => rwithout_any (B := B) s false p W (hw.later hu) (hp.upd hu) h62 hp6 (by omega) (by have := hu.size; omega))
  have HPM := hd (fun W v1 v2 (g1 : RRow B W v1 (rkeep ⟨s, p, false, 0⟩ false lh)) (g2 : RRow B W v2 (rkeep ⟨s, p, false, 0⟩ false lw)) (hB2 : B ≤ W.heap.size) => rpump_any last W g1 g2 (six_keep h61) (six_keep h62) (by have := rkeep_len ⟨s, p, false, 0⟩ false lh; have := rkeep_len ⟨s, p, false, 0⟩ false lw; omega) h0 hB2)
  have HR := hd (show relR lh lw last s p = if (findB ⟨lh.map Prod.fst, lw.map Prod.fst, last⟩ ⟨s, p, false, 0⟩).2 < 0 then (⟨lh, last, [], lw⟩, 20)
    else (rst (rkeep ⟨s, p, false, 0⟩ false lh) (rkeep ⟨s, p, false, 0⟩ false lw) last (rkeep ⟨s, p, false, 0⟩ false lw).length, 0) from rfl)
  obtain ⟨Z, hZ⟩ : ∃ Z, relR lh lw last s p = Z := ⟨_, rfl⟩
  rw [hZ] at HR ⊢
  obtain ⟨Z1, Z2⟩ := Z
  simp only
  clear hZ
  obtain ⟨pa, pc, hpv, -⟩ := hp
  rw [hpv] at HFD HW1 HW2 ⊢
  have HH := hd hh
  have HWW := hd hw
  obtain ⟨a1, c1, rfl, -⟩ := own_open hh.own
  obtain ⟨a2, c2, rfl, -⟩ := own_open hw.own
  have e0 := two_lk2 w #[.slice a1 lh.length c1, .slice a2 lw.length c2, .int .u64 last] #[.slice none 0 0, .slice none 0 0, .int .u64 0] 29 29
  clear hh hw h61 h62 hpv hp6
  generalize findB ⟨lh.map Prod.fst, lw.map Prod.fst, last⟩ ⟨s, p, false, 0⟩ = F at *
  obtain ⟨fl, fi⟩ := F
  obtain ⟨R, hRR⟩ : ∃ R, rst (rkeep ⟨s, p, false, 0⟩ false lh) (rkeep ⟨s, p, false, 0⟩ false lw) last (rkeep ⟨s, p, false, 0⟩ false lw).length = R := ⟨_, rfl⟩
  rw [hRR] at HPM HR
  clear hRR
  change Hd (∀ W, Upd [] w W → Calls _ _ _ W fun r w' => ∃ v', r = .returned v' ∧ RRow B w' v' (rkeep ⟨s, p, false, 0⟩ false lh) ∧ Upd [] W w') at HW1
  change Hd (∀ W, Upd [] w W → Calls _ _ _ W fun r w' => ∃ v', r = .returned v' ∧ RRow B w' v' (rkeep ⟨s, p, false, 0⟩ false lw) ∧ Upd [] W w') at HW2
  generalize rkeep ⟨s, p, false, 0⟩ false lh = l1 at *
  generalize rkeep ⟨s, p, false, 0⟩ false lw = l2 at *
  generalize p.length = pn at *
  go_enter Tryz.func25, Tryz.ntmps25
  go_upto_region 1 with fail
  obtain ⟨W, kb, kr, hkb, hkr, hW, hu, hb, hbr⟩ := e0
  rw [hW, hkb, hkr]
  have HKK := hd (show w.heap.size ≤ kb ∧ w.heap.size ≤ kr from ⟨by omega, by omega⟩)
  have nbr : ¬ (kb = kr) := by omega
  have nrb : ¬ (kr = kb) := by omega
  have HU := hd hu
  have HB := hd hb
  have HBR := hd hbr
  have hc := hb.cell
  clear hW hkb hkr hu hb hbr
  go_cut [9, 10, 13] (fun s9 s10 s13 wx => s10 = .int .i64 fi ∧ Upd [] W wx)
  case first =>
    go_wp2_with fail
    refine (HFD.out W HU.out).mono ?_
    rintro r w1 ⟨e, n, rfl, hen, hpe, hu1⟩
    simp only [Prod.mk.injEq] at hen
    obtain ⟨h1, rfl⟩ := hen
    obtain ⟨ea, ec, hev, -⟩ := own_open hpe
    have hrv : rval e = .agg #[.int .i64 e.1.ses, .slice ea e.1.path.length ec, .bool e.1.excl, .int .u64 e.1.tok] := by unfold rval; rw [hev]
    rw [hrv]
    have HU1 := hd hu1
    clear hpe hu1 h1 hrv hev
    generalize e.1.path.length = en at *
    go_wp2_with fail
    go_meet
    case rel => exact ⟨rfl, HU1.out.alloc _⟩
  case rest =>
    obtain ⟨rfl, hux⟩ := hcut
    have HUX := hd (HU.out.trans hux)
    have hbx := HB.out.upd hux (by simp)
    have HBX := hd hbx
    have HBRX := hd (HBR.out.upd hux (by simp))
    have hcx := hbx.cell
    have hlx := hbx.lt
    clear hc hux hbx
    have hkk := HKK.out
    by_cases hf : fi < 0
    · have HR1 := hd (HR.out.trans (if_pos hf))
      have hrc := HBRX.out.cell
      have hrz := HBRX.out.frozen
      have hrl := HBRX.out.lt
      clear HPM HW1 HW2
      obtain ⟨rfl, rfl⟩ : Z1 = ⟨lh, last, [], lw⟩ ∧ Z2 = 20 := by have := HR1.out; simp only [Prod.mk.injEq] at this; exact this
      clear HR HR1
      go_wp2_with fail
      refine bodyPost_ret (res_rp3 _ 6 7 8 rfl _ _ kr (.slice a1 lh.length c1) (.slice a2 lw.length c2) last (.slice none 0 0) (.int .i64 20) rfl rfl rfl ?bkk ⟨_, _, _, rfl⟩ ⟨_, _, _, rfl⟩) rfl ?fin
      case bkk =>
        with_reducible refine putB (c0 := .slice none 0 0) (c1 := .slice none 0 0) (c2 := .int .u64 0) ?_ _ _ _
        exact HBRX.out
      case fin =>
        have h := up3 HUX.out (.inr hkk.2) (.slice a1 lh.length c1) (.slice a2 lw.length c2) (.int .u64 last)
        exact ⟨_, _, _, rfl, HH.out.later h, HWW.out.later h, rnil _ _, h⟩
    · have HR1 := hd (HR.out.trans (if_neg hf))
      obtain ⟨rfl, rfl⟩ : Z1 = R ∧ Z2 = 0 := by have := HR1.out; simp only [Prod.mk.injEq] at this; exact this
      clear HR HR1
      go_wp2_with fail
      refine (HW1.out _ HUX.out).mono ?_
      rintro r w1 ⟨v1, rfl, hr1, hu1⟩
      have HU1 := hd (HUX.out.trans hu1)
      have hb1 := HBX.out.upd hu1 (by simp)
      have HBR1 := hd (HBRX.out.upd hu1 (by simp))
      have h1c := hb1.cell
      have h1z := hb1.frozen
      have h1l := hb1.lt
      obtain ⟨b1, d1, rfl, -⟩ := own_open hr1.own
      have e1 : ∃ W2, w1.setCell ⟨kb, 0, none⟩ (.slice b1 l1.length d1) = W2 ∧ Upd [] w W2 ∧ Blk W2 kb #[.slice b1 l1.length d1, .slice a2 lw.length c2, .int .u64 last] 29 ∧ Blk W2 kr #[.slice none 0 0, .slice none 0 0, .int .u64 0] 29 ∧ RRow B W2 (.slice b1 l1.length d1) l1 :=
        ⟨_, rfl, HU1.out.setCell (p := ⟨kb, 0, none⟩) (.inr HKK.out.1) _, hb1.set 0 _, Blk.off HBR1.out nrb, hr1.far hb1 (by decide) (by decide) ((Upd.refl _ _).setCell (p := ⟨kb, 0, none⟩) (by simp) _)⟩
      clear hu1 hb1 hr1 hcx hlx
      go_upto_region 5 with fail
      obtain ⟨W2, hW2, hu2, hb2, hbr2, hr2⟩ := e1
      rw [hW2]
      have HU2 := hd hu2
      have HB2 := hd hb2
      have HBR2 := hd hbr2
      have HR2 := hd hr2
      have h2c := hb2.cell
      have h2l := hb2.lt
      clear hW2 hu2 hb2 hbr2 hr2 h1c h1z h1l
      go_wp2_with fail
      refine (HW2.out _ HU2.out).mono ?_
      rintro r w3 ⟨v3, rfl, hr3, hu3⟩
      have HU3 := hd (HU2.out.trans hu3)
      have hb3 := HB2.out.upd hu3 (by simp)
      have HBR3 := hd (HBR2.out.upd hu3 (by simp))
      have HR23 := hd (HR2.out.later hu3)
      have h3c := hb3.cell
      have h3z := hb3.frozen
      have h3l := hb3.lt
      obtain ⟨b3, d3, rfl, -⟩ := own_open hr3.own
      have e3 : ∃ W4, w3.setCell ⟨kb, 1, none⟩ (.slice b3 l2.length d3) = W4 ∧ Upd [] w W4 ∧ Blk W4 kb #[.slice b1 l1.length d1, .slice b3 l2.length d3, .int .u64 last] 29 ∧ Blk W4 kr #[.slice none 0 0, .slice none 0 0, .int .u64 0] 29 ∧ RRow B W4 (.slice b1 l1.length d1) l1 ∧ RRow B W4 (.slice b3 l2.length d3) l2 :=
        ⟨_, rfl, HU3.out.setCell (p := ⟨kb, 1, none⟩) (.inr HKK.out.1) _, hb3.set 1 _, Blk.off HBR3.out nrb, HR23.out.far hb3 (by decide) (by decide) ((Upd.refl _ _).setCell (p := ⟨kb, 1, none⟩) (by simp) _), hr3.far hb3 (by decide) (by decide) ((Upd.refl _ _).setCell (p := ⟨kb, 1, none⟩) (by simp) _)⟩
      clear hu3 hb3 hr3 h2c h2l
      go_upto_region 6 with fail
      obtain ⟨W4, hW4, hu4, hb4, hbr4, hr4, hr4'⟩ := e3
      rw [hW4]
      have HU4 := hd hu4
      have HBR4 := hd hbr4
      have h4c := hb4.cell
      have HP4 := hd (HPM.out W4 _ _ hr4 hr4' (by have := hu4.size; omega))
      clear hW4 hu4 hb4 hbr4 hr4 hr4' h3c h3z h3l
      go_wp2_with fail
      refine HP4.out.mono ?_
      rintro r w5 ⟨vh5, vw5, vo5, rfl, g1, g2, g3, hu5⟩
      have HU5 := hd (HU4.out.trans hu5)
      have HBR5 := hd (HBR4.out.upd hu5 (by simp))
      obtain ⟨x1, y1, rfl, -⟩ := own_open g1.own
      obtain ⟨x2, y2, rfl, -⟩ := own_open g2.own
      obtain ⟨x3, y3, rfl, -⟩ := own_open g3.own
      have e5 := one_lk w5 #[.slice x1 Z1.held.length y1, .slice x2 Z1.left.length y2, .int .u64 Z1.last] 29
      have G1 := hd g1
      have G2 := hd g2
      have G3 := hd g3
      clear g1 g2 g3 hu5 h4c
      go_upto_region 7 with fail
      obtain ⟨W6, k6, hk6, hW6, hu6, hb6⟩ := e5
      rw [hW6, hk6]
      have HU6 := hd (HU5.out.trans hu6)
      have HBR6 := hd (HBR5.out.upd hu6 (by simp))
      have h6c := hb6.cell
      have h6rc := HBR6.out.cell
      have h6rz := HBR6.out.frozen
      have h6rl := HBR6.out.lt
      have HG := hd (three_far (w' := ((W6.setCell ⟨kr, 0, none⟩ (.slice x1 Z1.held.length y1)).setCell ⟨kr, 1, none⟩ (.slice x2 Z1.left.length y2)).setCell ⟨kr, 2, none⟩ (.int .u64 Z1.last)) HBR6.out (by decide) (by decide) (G1.out.later hu6) (G2.out.later hu6) (G3.out.later hu6) (up3 (Upd.refl _ _) (.inl (by simp)) _ _ _))
      clear hW6 hk6 hu6 hb6
      go_wp2_with fail
      refine bodyPost_ret (res_rp3 _ 6 7 8 rfl _ _ kr (.slice x1 Z1.held.length y1) (.slice x2 Z1.left.length y2) Z1.last (.slice x3 Z1.out.length y3) (.int .i64 0) rfl rfl rfl ?bkk ⟨_, _, _, rfl⟩ ⟨_, _, _, rfl⟩) rfl ?fin
      case bkk =>
        with_reducible refine putB (c0 := .slice none 0 0) (c1 := .slice none 0 0) (c2 := .int .u64 0) ?_ _ _ _
        exact HBR6.out
      case fin => exact ⟨_, _, _, rfl, HG.out.1, HG.out.2.1, HG.out.2.2, up3 HU6.out (.inr hkk.2) _ _ _⟩
end Go.Proofs.YtpniggmdokkkcaaGreatDoor
