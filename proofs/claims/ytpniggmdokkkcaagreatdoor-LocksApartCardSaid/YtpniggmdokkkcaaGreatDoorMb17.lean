/-
  Acquire of the document's book, walked. Conditions: good paths; few locks. (Printed by wip/tools/gen_rf9.py out of Rf9.in.)
-/
import Derived.Test.YtpniggmdokkkcaaGreatDoorMb16
import Derived.Deep.RegionLaw
set_option linter.unusedVariables false
set_option linter.unusedSimpArgs false
set_option maxRecDepth 100000
namespace Go.Proofs.YtpniggmdokkkcaaGreatDoor
open Go.RowKit

theorem res_ra (fn : Func) (s t u v : Nat) (hr : fn.results = #[.cell s 29, .cell t 67, .tmp u, .tmp v]) (tmps : Array Value) (W : World) (k j : Nat) (vh vw : Value) (last : Int) (e : RLk) (x y : Value) (hs : tmps[s]? = some (.pointer (some ⟨k, 0, none⟩))) (ht : tmps[t]? = some (.pointer (some ⟨j, 0, none⟩))) (hu : tmps[u]? = some x) (hv : tmps[v]? = some y)
    (h : Blk W k #[vh, vw, .int .u64 last] 29) (h1 : ∃ a n c, vh = .slice a n c) (h2 : ∃ a n c, vw = .slice a n c) (h' : Blk W j (rcel e).toArray 67) (hp : ∃ a n c, e.2 = .slice a n c) :
    (results fn tmps).run Tryz.prog W = .ok (.tuple #[.agg #[vh, vw, .int .u64 last], rval e, x, y]) W := by
  simp [results, hr, hs, ht, hu, hv, asAddr, load_rb W k vh vw last h h1 h2, load_rk W j e h' hp]
/-- Locks without their paths' slices. -/
def fsts (l : List RLk) : List LkS := l.map Prod.fst
theorem fsts_any (x : LkS) (l : List RLk) : (fsts l).any (conflB x) = l.any fun e => conflB x e.1 := by simp [fsts, List.any_map]; rfl
theorem fsts_app (l m : List RLk) : fsts (l ++ m) = fsts l ++ fsts m := by simp [fsts]
abbrev insE (l : List LkS) (x : LkS) : List LkS := l ++ [x]
def racqP (lh lw : List RLk) (last : Int) (x : RLk) (wait : Bool) : BkS × LkS × Int × Int := acqP insE ⟨fsts lh, fsts lw, last⟩ x.1 wait
theorem racq_eq (lh lw : List RLk) (last : Int) (x : RLk) (wait : Bool) : racqP lh lw last x wait =
    if 0 ≤ (findB ⟨fsts lh, fsts lw, last⟩ ⟨x.1.ses, x.1.path, false, 0⟩).2 then
      if (findB ⟨fsts lh, fsts lw, last⟩ ⟨x.1.ses, x.1.path, false, 0⟩).1.excl ≠ x.1.excl then (⟨fsts lh, fsts lw, last⟩, zeroK, 0, 16) else (⟨fsts lh, fsts lw, last⟩, (findB ⟨fsts lh, fsts lw, last⟩ ⟨x.1.ses, x.1.path, false, 0⟩).1, (findB ⟨fsts lh, fsts lw, last⟩ ⟨x.1.ses, x.1.path, false, 0⟩).2, 0)
    else if 8 ≤ countK x.1.ses (fsts (lh ++ lw)) then (⟨fsts lh, fsts lw, last⟩, zeroK, 0, 17)
    else if (!(lh.any fun e => conflB x.1 e.1) && !(lw.any fun e => conflB x.1 e.1)) = true then
      if last = 18446744073709551615 then (⟨fsts lh, fsts lw, last⟩, zeroK, 0, 19) else (⟨fsts (lh ++ [rtok last x]), fsts lw, last + 1⟩, (rtok last x).1, 0, 0)
    else if wait = false then (⟨fsts lh, fsts lw, last⟩, zeroK, 0, 16)
    else if 8 ≤ lw.length then (⟨fsts lh, fsts lw, last⟩, zeroK, 0, 17)
    else (⟨fsts lh, fsts (lw ++ [({ x.1 with tok := 0 }, x.2)]), last⟩, { x.1 with tok := 0 }, (lw.length : Int) + 1, 0) := by
  unfold racqP acqP
  simp only [fsts_any, fsts_app]
  have h1 : ∀ e : RLk, conflB { x.1 with tok := 0 } e.1 = conflB x.1 e.1 := fun e => rfl
  simp only [h1]
  have h2 : (fsts lw).length = lw.length := by simp [fsts]
  rw [h2]
  rfl

theorem rg_leaf1 {w W2 w6 : World} {k1 k2 k3 k4 n : Nat} {b1 b2 b3 : Value} {x2 x3 x4 : Array Value} {T1 T2 T3 T4 : TypeId} {a6 : Option Addr} {c6 : Nat} {xs : List Value} {T : TypeId} (h1 : Blk W2 k1 #[b1, b2, b3] T1) (h2 : Blk W2 k2 x2 T2) (h3 : Blk W2 k3 x3 T3) (h4 : Blk W2 k4 x4 T4) (hu2 : Upd [] w W2) (hu : Upd [] W2 w6) (hk : w.heap.size ≤ k1) (hl : k1 < W2.heap.size) (ho : w6.ownsRow W2.heap.size T 4 (.slice a6 n c6) n xs) (n21 : ¬ k2 = k1) (n31 : ¬ k3 = k1) (n41 : ¬ k4 = k1) :
    Blk (w6.setCell ⟨k1, 1, none⟩ (.slice a6 n c6)) k1 #[b1, .slice a6 n c6, b3] T1 ∧ Blk (w6.setCell ⟨k1, 1, none⟩ (.slice a6 n c6)) k2 x2 T2 ∧ Blk (w6.setCell ⟨k1, 1, none⟩ (.slice a6 n c6)) k3 x3 T3 ∧ Blk (w6.setCell ⟨k1, 1, none⟩ (.slice a6 n c6)) k4 x4 T4 ∧
      (w6.setCell ⟨k1, 1, none⟩ (.slice a6 n c6)).ownsRow w.heap.size T 4 (.slice a6 n c6) n xs ∧ Upd [] w (w6.setCell ⟨k1, 1, none⟩ (.slice a6 n c6)) ∧ (Value.slice a6 n c6).ownBlock ≠ some k4 := by
  refine ⟨(h1.upd hu (by simp)).set 1 _, (h2.upd hu (by simp)).set_other (p := ⟨k1, 1, none⟩) n21 _, (h3.upd hu (by simp)).set_other (p := ⟨k1, 1, none⟩) n31 _, (h4.upd hu (by simp)).set_other (p := ⟨k1, 1, none⟩) n41 _, ?_, (hu2.trans hu).setCell (p := ⟨k1, 1, none⟩) (.inr hk) _, fun e => by have := (own_ge ho k4 e).1; have := h4.lt; omega⟩
  refine own_upd (L := [k1]) (own_mono ho hu2.size) ((Upd.refl _ _).setCell (p := ⟨k1, 1, none⟩) (by simp) _) (fun g hg hm => ?_)
  simp only [List.mem_cons, List.not_mem_nil, or_false] at hm
  have := (own_ge ho g hg).1
  omega
theorem countF_take (s : Int) (l : List RLk) (t : Nat) (ht : t < l.length) : countK s (fsts (l.take (t + 1))) = countK s (fsts (l.take t)) + (if l[t].1.ses = s then 1 else 0) := by
  have h := countK_take s (fsts l) t (by simpa [fsts] using ht)
  have e1 : (fsts l)[t]'(by simpa [fsts] using ht) = l[t].1 := by simp [fsts]
  rw [e1] at h
  simpa [fsts, List.map_take] using h
/-- What Acquire leaves: the answer Q, in memory. -/
def AcqPost (B : Nat) (w w' : World) (r : Ending) (Q : BkS × LkS × Int × Int) : Prop :=
  ∃ (lh' lw' : List RLk) (vh' vw' : Value) (e : RLk), r = .returned (.tuple #[.agg #[vh', vw', .int .u64 Q.1.last], rval e, .int .i64 Q.2.2.1, .int .i64 Q.2.2.2]) ∧
        (fsts lh', fsts lw', e.1) = (Q.1.held, Q.1.waits, Q.2.1) ∧ RRow B w' vh' lh' ∧ RRow B w' vw' lw' ∧ StrRow B w' e.2 e.1.path ∧ (∀ e ∈ lh' ++ lw', Six e.1.path) ∧ Upd [] w w'

set_option maxHeartbeats 16000000 in
theorem racquire_any {B : Nat} {vh vw : Value} {lh lw : List RLk} (last : Int) (x : RLk) (wait : Bool) (w : World) (hh : RRow B w vh lh) (hw : RRow B w vw lw) (hx : StrRow B w x.2 x.1.path) (h61 : ∀ e ∈ lh, Six e.1.path) (h62 : ∀ e ∈ lw, Six e.1.path) (hx6 : Six x.1.path) (hl : lh.length + lw.length ≤ 900) (h0 : 0 ≤ last) (hlm : last ≤ 18446744073709551615) (hB : B ≤ w.heap.size) :
    Calls Tryz.prog 23 #[.agg #[vh, vw, .int .u64 last], rval x, .bool wait] w fun r w' =>
      AcqPost B w w' r (racqP lh lw last x wait) := by
  have HRQ := hd (racq_eq lh lw last x wait)
  obtain ⟨Q, hQ⟩ : ∃ Q, racqP lh lw last x wait = Q := ⟨_, rfl⟩
  rw [hQ] at HRQ ⊢
  have HSIX := hd (show ∀ e ∈ lh ++ lw, Six e.1.path from fun e he => (List.mem_append.1 he).elim (h61 e) (h62 e))
  have HFD := hd (fun W (hu : Upd [] w W) => rfind_any (B := B) last x.1.ses x.1.path W (hh.later hu) (hw.later hu) (row_strs (own_upd (L := []) hx hu (by simp))) h61 h62 hx6)
  have HMY := hd (fun W (hu : Upd [] w W) => rmay_any (B := B) (C := B) (D := B) (E := B) last (({ x.1 with tok := 0 }, x.2) : RLk) W (hh.later hu) (hw.later hu) (hw.later hu) (own_upd (L := []) hx hu (by simp)) h61 h62 hx6)
  have HGR := hd (fun (hlt : last < 18446744073709551615) W (hu : Upd [] w W) => rgrant_any (B := B) (E := B) (C := B) last (({ x.1 with tok := 0 }, x.2) : RLk) W (hh.later hu) (hw.later hu) (own_upd (L := []) hx hu (by simp)) (by omega) h0 hlt)
  have HH := hd hh
  have HWW := hd hw
  have HX := hd hx
  have HX6 := hd hx6
  obtain ⟨a1, c1, rfl, -⟩ := own_open hh.own
  obtain ⟨a2, c2, rfl, -⟩ := own_open hw.own
  obtain ⟨qa, qc, hxv, -⟩ := own_open hx
  have hx0 : rval (({ x.1 with tok := 0 }, x.2) : RLk) = .agg #[.int .i64 x.1.ses, .slice qa x.1.path.length qc, .bool x.1.excl, .int .u64 0] := by unfold rval; rw [hxv]
  have hxr : rval x = .agg #[.int .i64 x.1.ses, .slice qa x.1.path.length qc, .bool x.1.excl, .int .u64 x.1.tok] := by unfold rval; rw [hxv]
  have HTX := hd (show rval (rtok last (({ x.1 with tok := 0 }, x.2) : RLk)) = .agg #[.int .i64 x.1.ses, .slice qa x.1.path.length qc, .bool x.1.excl, .int .u64 (last + 1)] by unfold rval rtok; rw [hxv])
  rw [hx0] at HMY HGR
  rw [HTX.out] at HGR
  rw [hxv] at HFD
  rw [hxr]
  have HXV := hd hxv
  have e0 := four_lk w #[.slice a1 lh.length c1, .slice a2 lw.length c2, .int .u64 last] #[.int .i64 x.1.ses, .slice qa x.1.path.length qc, .bool x.1.excl, .int .u64 x.1.tok] #[.slice none 0 0, .slice none 0 0, .int .u64 0] #[.int .i64 0, .slice none 0 0, .bool false, .int .u64 0] 29 67 29 67
  clear hh hw hx h61 h62 hx6 hQ hx0 hxr hxv
  change Hd (∀ W, Upd [] w W → Calls _ _ _ W fun r w' => ∃ (e : RLk) (n : Int), r = .returned (.tuple #[rval e, .int .i64 n]) ∧ (e.1, n) = findB ⟨fsts lh, fsts lw, last⟩ ⟨x.1.ses, x.1.path, false, 0⟩ ∧ StrRow B w' e.2 e.1.path ∧ Upd [] W w') at HFD
  change Hd (∀ W, Upd [] w W → Calls _ _ _ W fun r w' => r = .returned (.bool (!(lh.any fun e => conflB x.1 e.1) && !(lw.any fun e => conflB x.1 e.1))) ∧ Upd [] W w') at HMY
  generalize findB ⟨fsts lh, fsts lw, last⟩ ⟨x.1.ses, x.1.path, false, 0⟩ = F at *
  generalize (!(lh.any fun e => conflB x.1 e.1) && !(lw.any fun e => conflB x.1 e.1)) = q at *
  obtain ⟨fl, fi⟩ := F
  simp only at HRQ
  generalize hxn : x.1.path.length = xn at *
  go_enter Tryz.func23, Tryz.ntmps23
  go_upto_region 1 with fail
  obtain ⟨W, kb, kx, k6, k7, hkb, hkx, hk6, hk7, hW, hu, hb, hbx, hb6, hb7⟩ := e0
  rw [hW, hkb, hkx, hk6, hk7]
  have n67 : ¬ (k6 = k7) := by omega
  have n76 : ¬ (k7 = k6) := by omega
  have nbx : ¬ (kb = kx) := by omega
  have n6x : ¬ (k6 = kx) := by omega
  have n7x : ¬ (k7 = kx) := by omega
  have HKK := hd (show w.heap.size ≤ kb ∧ w.heap.size ≤ kx ∧ w.heap.size ≤ k6 ∧ w.heap.size ≤ k7 from ⟨by omega, by omega, by omega, by omega⟩)
  have hcx := hbx.cell
  have hzx := hbx.frozen
  have e1 : ∃ W2, W.setCell ⟨kx, 3, none⟩ (.int .u64 0) = W2 ∧ Upd [] w W2 ∧ Blk W2 kb #[.slice a1 lh.length c1, .slice a2 lw.length c2, .int .u64 last] 29 ∧ Blk W2 kx #[.int .i64 x.1.ses, .slice qa xn qc, .bool x.1.excl, .int .u64 0] 67 ∧ Blk W2 k6 #[.slice none 0 0, .slice none 0 0, .int .u64 0] 29 ∧ Blk W2 k7 #[.int .i64 0, .slice none 0 0, .bool false, .int .u64 0] 67 :=
    ⟨_, rfl, hu.setCell (p := ⟨kx, 3, none⟩) (.inr HKK.out.2.1) _, Blk.off hb nbx, hbx.set 3 _, Blk.off hb6 n6x, Blk.off hb7 n7x⟩
  have nb6 : ¬ (kb = k6) := by omega
  have nb7 : ¬ (kb = k7) := by omega
  have nx6 : ¬ (kx = k6) := by omega
  have nx7 : ¬ (kx = k7) := by omega
  clear hW hkb hkx hk6 hk7 hu hb hb6 hb7
  go_upto_region 2 with fail
  obtain ⟨W2, hW2, hu2, hb2, hbx2, hb62, hb72⟩ := e1
  rw [hW2]
  have HU2 := hd hu2
  have HB2 := hd hb2
  have HX2 := hd hbx2
  have H62 := hd hb62
  have H72 := hd hb72
  have hc2 := hb2.cell
  have hcx2 := hbx2.cell
  have hlx2 := hbx2.lt
  clear hW2 hu2 hb2 hbx2 hb62 hb72 hcx hzx hbx
  go_cut [10, 11, 18] (fun s10 s11 s18 wx => ∃ kf e, s10 = .pointer (some ⟨kf, 0, none⟩) ∧ s11 = .int .i64 fi ∧ e.1 = fl ∧ StrRow B wx e.2 e.1.path ∧ Blk wx kf (rcel e).toArray 67 ∧ Upd [] W2 wx ∧ W2.heap.size ≤ kf)
  case first =>
    go_wp2_with fail
    refine (HFD.out W2 HU2.out).mono ?_
    rintro r w1 ⟨e, n, rfl, hen, hpe, hu1⟩
    simp only [Prod.mk.injEq] at hen
    obtain ⟨h1, rfl⟩ := hen
    obtain ⟨ea, ec, hev, -⟩ := own_open hpe
    have hrv : rval e = .agg #[.int .i64 e.1.ses, .slice ea e.1.path.length ec, .bool e.1.excl, .int .u64 e.1.tok] := by unfold rval; rw [hev]
    have HRC := hd (show (rcel e).toArray = #[.int .i64 e.1.ses, .slice ea e.1.path.length ec, .bool e.1.excl, .int .u64 e.1.tok] by unfold rcel; rw [hev])
    rw [hrv]
    have HU1 := hd hu1
    have HPE := hd hpe
    have H1 := hd h1
    clear hpe hu1 h1 hrv hev
    generalize e.1.path.length = en at *
    go_wp2_with fail
    go_meet
    case rel => exact ⟨w1.heap.size, e, rfl, rfl, H1.out, own_upd (L := []) HPE.out ((Upd.refl _ _).alloc _) (by simp), by rw [HRC.out]; exact Blk.new _ _ _, HU1.out.alloc _, HU1.out.size⟩
  case rest =>
    obtain ⟨kf, e, rfl, rfl, hefl, hep, hbf, hux, hkf⟩ := hcut
    have nf6 : ¬ (kf = k6) := by have := H62.out.lt; omega
    have nf7 : ¬ (kf = k7) := by have := H72.out.lt; omega
    have n6f : ¬ (k6 = kf) := fun e => nf6 e.symm
    have n7f : ¬ (k7 = kf) := fun e => nf7 e.symm
    have HUL := hd (HU2.out.trans hux)
    have HBX := hd (HB2.out.upd hux (by simp))
    have HXX := hd (HX2.out.upd hux (by simp))
    have B6 := hd (H62.out.upd hux (by simp))
    have B7 := hd (H72.out.upd hux (by simp))
    obtain ⟨ea, ec, hev, -⟩ := own_open hep
    have HEV := hd hev
    have HEC := hd (show (rcel e).toArray = #[.int .i64 e.1.ses, .slice ea e.1.path.length ec, .bool e.1.excl, .int .u64 e.1.tok] by unfold rcel; rw [hev])
    have HEP := hd hep
    rw [HEC.out] at hbf
    have HFL := hd hefl
    have hcf := hbf.cell
    have hlf := hbf.lt
    have hcb := HBX.out.cell
    have hlb := HBX.out.lt
    have hcx := HXX.out.cell
    have hlx := HXX.out.lt
    have h6c := B6.out.cell
    have h6z := B6.out.frozen
    have h6l := B6.out.lt
    have h7c := B7.out.cell
    have h7z := B7.out.frozen
    have h7l := B7.out.lt
    have hexl : e.1.excl = fl.excl := by rw [hefl]
    clear hux hbf hc2 hcx2 hlx2 hev hep hefl
    generalize hen : e.1.path.length = en at *
    by_cases hfi : 0 ≤ fi
    · have HR1 := hd (HRQ.out.trans (if_pos hfi))
      by_cases hex : fl.excl = x.1.excl
      · have HRR := hd (HR1.out.trans (if_neg (by simpa using hex)))
        have hex' : (e.1.excl == x.1.excl) = true := by rw [hexl, hex]; simp
        clear hex hexl HRQ HR1 HFD HMY HGR
        go_upto_region 6 with fail
        go_region
        all_goals
          go_wp2_with fail
          have hkk := HKK.out
          refine bodyPost_ret (res_ra _ 6 7 8 9 rfl _ _ k6 k7 (.slice a1 lh.length c1) (.slice a2 lw.length c2) (last) e (.int .i64 (fi)) (.int .i64 (0)) rfl rfl rfl rfl ?b6 ⟨_, _, _, rfl⟩ ⟨_, _, _, rfl⟩ ?b7 ⟨_, _, _, HEV.out⟩) rfl ?fin
          case b6 =>
            repeat (first | with_reducible refine Blk.drew ?_ | with_reducible refine Blk.off ?_ n67)
            with_reducible refine putB (c0 := .slice none 0 0) (c1 := .slice none 0 0) (c2 := .int .u64 0) ?_ _ _ _
            repeat (first | with_reducible refine Blk.drew ?_ | with_reducible refine Blk.off ?_ n67)
            exact B6.out
          case b7 =>
            rw [HEC.out]
            repeat (first | with_reducible refine Blk.drew ?_ | with_reducible refine Blk.off ?_ n76)
            with_reducible refine putR (c0 := .int .i64 0) (c1 := .slice none 0 0) (c2 := .bool false) (c3 := .int .u64 0) ?_ _ _ _ _
            repeat (first | with_reducible refine Blk.drew ?_ | with_reducible refine Blk.off ?_ n76)
            exact B7.out
          case fin =>
            rw [HRR.out]
            skip
            refine ⟨lh, lw, .slice a1 lh.length c1, .slice a2 lw.length c2, e, rfl, by rw [HFL.out], ?_, ?_, ?_, HSIX.out, ?_⟩
            · refine HH.out.later ?_
              repeat (first | with_reducible exact HUL.out | with_reducible refine Upd.drew ?_ | with_reducible refine Upd.setCell ?_ (.inr (by simp only; omega)) _)
            · refine HWW.out.later ?_
              repeat (first | with_reducible exact HUL.out | with_reducible refine Upd.drew ?_ | with_reducible refine Upd.setCell ?_ (.inr (by simp only; omega)) _)
            · exact own_upd (L := [k6, k7]) HEP.out (by repeat (first | with_reducible exact Upd.refl _ _ | with_reducible refine Upd.drew ?_ | with_reducible refine Upd.setCell ?_ (.inl (by simp)) _)) (fun g hg hm => by simp only [List.mem_cons, List.not_mem_nil, or_false] at hm; rcases hm with hm | hm; exact own_ne_any HEP.out B6.out (by decide) g hg hm; exact own_ne_any HEP.out B7.out (by decide) g hg hm)
            · repeat (first | with_reducible exact HUL.out | with_reducible refine Upd.drew ?_ | with_reducible refine Upd.setCell ?_ (.inr (by simp only; omega)) _)
      · have HRR := hd (HR1.out.trans (if_pos hex))
        have hex' : (e.1.excl == x.1.excl) = false := by rw [hexl]; simpa using hex
        clear hex hexl HRQ HR1 HFD HMY HGR
        go_wp2_with fail
        have hkk := HKK.out
        refine bodyPost_ret (res_ra _ 6 7 8 9 rfl _ _ k6 k7 (.slice a1 lh.length c1) (.slice a2 lw.length c2) (last) (zeroK, .slice none 0 0) (.int .i64 (0)) (.int .i64 (16)) rfl rfl rfl rfl ?b6 ⟨_, _, _, rfl⟩ ⟨_, _, _, rfl⟩ ?b7 ⟨_, _, _, rfl⟩) rfl ?fin
        case b6 =>
          repeat (first | with_reducible refine Blk.drew ?_ | with_reducible refine Blk.off ?_ n67)
          with_reducible refine putB (c0 := .slice none 0 0) (c1 := .slice none 0 0) (c2 := .int .u64 0) ?_ _ _ _
          repeat (first | with_reducible refine Blk.drew ?_ | with_reducible refine Blk.off ?_ n67)
          exact B6.out
        case b7 =>
          show Blk _ k7 #[.int .i64 0, .slice none 0 0, .bool false, .int .u64 0] _
          repeat (first | with_reducible refine Blk.drew ?_ | with_reducible refine Blk.off ?_ n76)
          with_reducible refine putR (c0 := .int .i64 0) (c1 := .slice none 0 0) (c2 := .bool false) (c3 := .int .u64 0) ?_ _ _ _ _
          repeat (first | with_reducible refine Blk.drew ?_ | with_reducible refine Blk.off ?_ n76)
          exact B7.out
        case fin =>
          rw [HRR.out]
          skip
          refine ⟨lh, lw, .slice a1 lh.length c1, .slice a2 lw.length c2, (zeroK, .slice none 0 0), rfl, rfl, ?_, ?_, ?_, HSIX.out, ?_⟩
          · refine HH.out.later ?_
            repeat (first | with_reducible exact HUL.out | with_reducible refine Upd.drew ?_ | with_reducible refine Upd.setCell ?_ (.inr (by simp only; omega)) _)
          · refine HWW.out.later ?_
            repeat (first | with_reducible exact HUL.out | with_reducible refine Upd.drew ?_ | with_reducible refine Upd.setCell ?_ (.inr (by simp only; omega)) _)
          · exact World.ownsRow_nil _ _ _ _
          · repeat (first | with_reducible exact HUL.out | with_reducible refine Upd.drew ?_ | with_reducible refine Upd.setCell ?_ (.inr (by simp only; omega)) _)
    · have HR1 := hd (HRQ.out.trans (if_neg hfi))
      clear hcf hlf HRQ hexl HEV HEC HEP HFL HFD
      have HL2 := hd (show lh.length ≤ 900 ∧ lw.length ≤ 900 by omega)
      go_upto_region 8 with fail
      go_cut [45, 46, 47] (fun s45 s46 s47 wx => ∃ a c, s45 = .slice a (lh.length + lw.length) c ∧ s46 = .int .i64 ((lh.length : Int) + (lw.length : Int)) ∧ s47 = .int .i64 0 ∧ wx.ownsRow wc.heap.size 67 4 (.slice a (lh.length + lw.length) c) (lh.length + lw.length) (rCells (lh ++ lw)) ∧ Upd [] wc wx)
      case first =>
        go_region_law (first
          | (refine step_rkAppend rfl _ _ (by rfl) wc.heap.size B _ _ [] lh (by rfl) (by rfl) (empty_row (by repeat (first | with_reducible exact Blk.new' _ _ _ (by simp) | with_reducible refine Blk.alloc ?_ _ | with_reducible refine Blk.drew ?_)) (by simp)) ((HH.out.later HUL.out).later (by repeat (first | with_reducible exact Upd.refl _ _ | with_reducible refine Upd.alloc ?_ _ | with_reducible refine Upd.drew ?_))) (by simp) (by omega) (by simp <;> omega) ?_
             intro a5 c5 w5 hown5 hu5
             have hU5 : Upd [] wc w5 := Upd.trans' (by repeat (first | with_reducible exact Upd.refl _ _ | with_reducible refine Upd.alloc ?_ _ | with_reducible refine Upd.drew ?_)) hu5 (by simp [Value.ownBlock])
             have hqc1 := (HBX.out.upd hU5 (by simp)).cell
             have hql1 := Nat.lt_of_lt_of_le hlb hU5.size
             have QO := hd hown5
             have QU := hd hU5
             have QS := hd hU5.size
             clear hown5 hu5 hU5)
          | (refine step_rkAppend rfl _ _ (by rfl) wc.heap.size B _ _ ([] ++ lh) lw (by rfl) (by rfl) (own_upd (L := []) QO.out (by repeat (first | with_reducible exact Upd.refl _ _ | with_reducible refine Upd.alloc ?_ _ | with_reducible refine Upd.drew ?_)) (by simp)) ((HWW.out.later (HUL.out.trans QU.out)).later (by repeat (first | with_reducible exact Upd.refl _ _ | with_reducible refine Upd.alloc ?_ _ | with_reducible refine Upd.drew ?_))) (by simp <;> omega) (by omega) (by have := QS.out; simp <;> omega) ?_
             intro a6 c6 w6 hown6 hu6
             have RU := hd (rg_up (W2 := wc) QU.out (by repeat (first | with_reducible exact Upd.refl _ _ | with_reducible refine Upd.alloc ?_ _ | with_reducible refine Upd.drew ?_)) hu6 QO.out)
             have RO := hd hown6
             clear hown6 hu6)
          | fail "no arm")
        all_goals
          go_wp2_with fail
          go_meet
          case rel => exact ⟨a6, c6, by simp, by simp, rfl, by simpa using RO.out, RU.out⟩
      case rest =>
        obtain ⟨al, cl, rfl, rfl, rfl, hown, huz⟩ := hcut
        rename World => wz
        have HUZ := hd (HUL.out.trans huz)
        have HBZ := hd (HBX.out.upd huz (by simp))
        have HXZ := hd (HXX.out.upd huz (by simp))
        have B6Z := hd (B6.out.upd huz (by simp))
        have B7Z := hd (B7.out.upd huz (by simp))
        have HLR := hd (show RRow 0 wz (.slice al (lh.length + lw.length) cl) (lh ++ lw) from ⟨by rw [List.length_append]; exact own_mono hown (Nat.zero_le _), fun e he => own_mono (own_upd (L := []) ((List.mem_append.1 he).elim (HH.out.path e) (HWW.out.path e)) HUZ.out (by simp)) (Nat.zero_le _)⟩)
        clear huz hown hcb hlb hcx hlx h6c h6z h6l h7c h7z h7l HUL HBX HXX B6 B7
        obtain ⟨L, hL⟩ : ∃ L, lh ++ lw = L := ⟨_, rfl⟩
        have HLN := hd (show L.length = lh.length + lw.length by rw [← hL, List.length_append])
        rw [hL] at HR1 HLR
        clear hL
        have hLn := HLN.out
        have hL2 := HL2.out
        go_wp2_with fail
        go_loopw [12, 47] (fun s12 s47 wr => ∃ t : Nat, s47 = .int .i64 t ∧ t ≤ lh.length + lw.length ∧ s12 = .int .i64 (countK x.1.ses (fsts (L.take t))) ∧ Upd [] wz wr) (fun _ s47 _ => lh.length + lw.length - (intOf s47).toNat)
        case atStart => exact ⟨0, rfl, by omega, rfl, Upd.refl _ _⟩
        case round =>
          obtain ⟨t, rfl, ht, rfl, hu⟩ := hrel
          have HUV := hd hu
          clear hu
          by_cases htn : t < lh.length + lw.length
          · have htn' : (t : Int) < (lh.length : Int) + (lw.length : Int) := by omega
            have htL : t < L.length := by have := HLN.out; omega
            obtain ⟨g, pa, pc, rfl, hgl, hpv, d0, d1, d2, d3⟩ := rk_get HLR.out HLN.out HUV.out t htL
            have HCT := hd (countF_take x.1.ses L t htL)
            have hcb := countK_le x.1.ses (fsts (L.take t))
            have hlf2 : (fsts (L.take t)).length ≤ t := by simp [fsts]; omega
            have hadd : (countK x.1.ses (fsts (L.take t)) : Int) + 1 ≤ 9223372036854775807 := by omega
            have e1 := one_lk wr #[.int .i64 L[t].1.ses, .slice pa L[t].1.path.length pc, .bool L[t].1.excl, .int .u64 L[t].1.tok] 67
            clear hpv hcb hlf2
            generalize L[t] = y at *
            generalize y.1.path.length = yn at *
            generalize countK x.1.ses (fsts (L.take t)) = cn at *
            go_upto_region 11 with fail
            obtain ⟨W3, k3, hk3, hW3, hu3, hb3⟩ := e1
            rw [hW3, hk3]
            have HU3 := hd (HUV.out.trans hu3)
            have hc3 := hb3.cell
            have hx3 := (HXZ.out.upd HU3.out (by simp)).cell
            clear hk3 hW3 hu3 hb3 d0 d1 d2 d3
            by_cases hs : y.1.ses = x.1.ses
            · have hs' : (y.1.ses == x.1.ses) = true := by simpa using hs
              have HS := hd hs
              clear hs
              go_wp2_with fail
              go_roundw
              case rel => exact ⟨t + 1, by go_num, by omega, by rw [HCT.out, if_pos HS.out]; go_num, HU3.out⟩
              case measure => simp [intOf]; omega
            · have hs' : (y.1.ses == x.1.ses) = false := by simpa using hs
              have HS := hd hs
              clear hs
              go_wp2_with fail
              go_roundw
              case rel => exact ⟨t + 1, by go_num, by omega, by rw [HCT.out, if_neg HS.out]; rfl, HU3.out⟩
              case measure => simp [intOf]; omega
          · have htn' : ¬ (t : Int) < (lh.length : Int) + (lw.length : Int) := by omega
            have htk : L.take t = L := List.take_of_length_le (by omega)
            rw [htk]
            have HUL := hd (HUZ.out.trans HUV.out)
            have HBX := hd (HBZ.out.upd HUV.out (by simp))
            have HXX := hd (HXZ.out.upd HUV.out (by simp))
            have B6 := hd (B6Z.out.upd HUV.out (by simp))
            have B7 := hd (B7Z.out.upd HUV.out (by simp))
            clear htk HLR HUZ HBZ HXZ B6Z B7Z HUV
            generalize countK x.1.ses (fsts L) = cn at *
            have hcb := HBX.out.cell
            have hlb := HBX.out.lt
            have hcx := HXX.out.cell
            have hlx := HXX.out.lt
            have h6c := B6.out.cell
            have h6z := B6.out.frozen
            have h6l := B6.out.lt
            have h7c := B7.out.cell
            have h7z := B7.out.frozen
            have h7l := B7.out.lt
            by_cases hcn : 8 ≤ cn
            · have hcn' : (7 : Int) < (cn : Int) := by omega
              have HRR := hd (HR1.out.trans (if_pos hcn))
              clear HR1
              go_wp2_with fail
              have hkk := HKK.out
              refine bodyPost_ret (res_ra _ 6 7 8 9 rfl _ _ k6 k7 (.slice a1 lh.length c1) (.slice a2 lw.length c2) (last) (zeroK, .slice none 0 0) (.int .i64 (0)) (.int .i64 (17)) rfl rfl rfl rfl ?b6 ⟨_, _, _, rfl⟩ ⟨_, _, _, rfl⟩ ?b7 ⟨_, _, _, rfl⟩) rfl ?fin
              case b6 =>
                repeat (first | with_reducible refine Blk.drew ?_ | with_reducible refine Blk.off ?_ n67)
                with_reducible refine putB (c0 := .slice none 0 0) (c1 := .slice none 0 0) (c2 := .int .u64 0) ?_ _ _ _
                repeat (first | with_reducible refine Blk.drew ?_ | with_reducible refine Blk.off ?_ n67)
                exact B6.out
              case b7 =>
                show Blk _ k7 #[.int .i64 0, .slice none 0 0, .bool false, .int .u64 0] _
                repeat (first | with_reducible refine Blk.drew ?_ | with_reducible refine Blk.off ?_ n76)
                with_reducible refine putR (c0 := .int .i64 0) (c1 := .slice none 0 0) (c2 := .bool false) (c3 := .int .u64 0) ?_ _ _ _ _
                repeat (first | with_reducible refine Blk.drew ?_ | with_reducible refine Blk.off ?_ n76)
                exact B7.out
              case fin =>
                rw [HRR.out]
                skip
                refine ⟨lh, lw, .slice a1 lh.length c1, .slice a2 lw.length c2, (zeroK, .slice none 0 0), rfl, rfl, ?_, ?_, ?_, HSIX.out, ?_⟩
                · refine HH.out.later ?_
                  repeat (first | with_reducible exact HUL.out | with_reducible refine Upd.drew ?_ | with_reducible refine Upd.setCell ?_ (.inr (by simp only; omega)) _)
                · refine HWW.out.later ?_
                  repeat (first | with_reducible exact HUL.out | with_reducible refine Upd.drew ?_ | with_reducible refine Upd.setCell ?_ (.inr (by simp only; omega)) _)
                · exact World.ownsRow_nil _ _ _ _
                · repeat (first | with_reducible exact HUL.out | with_reducible refine Upd.drew ?_ | with_reducible refine Upd.setCell ?_ (.inr (by simp only; omega)) _)
            · have hcn' : ¬ (7 : Int) < (cn : Int) := by omega
              have HR2 := hd (HR1.out.trans (if_neg hcn))
              clear HR1 hcn
              have HM2 := hd (HMY.out wr HUL.out)
              go_wp2_with fail
              refine HM2.out.mono ?_
              rintro r w5 ⟨rfl, hu5⟩
              have HUL5 := hd (HUL.out.trans hu5)
              have HBX5 := hd (HBX.out.upd hu5 (by simp))
              have HXX5 := hd (HXX.out.upd hu5 (by simp))
              have B65 := hd (B6.out.upd hu5 (by simp))
              have B75 := hd (B7.out.upd hu5 (by simp))
              clear HUL HBX HXX B6 B7 hcb hlb hcx hlx h6c h6z h6l h7c h7z h7l hu5 HM2
              have hcb := HBX5.out.cell
              have hbz := HBX5.out.frozen
              have hlb := HBX5.out.lt
              have hcx := HXX5.out.cell
              have hlx := HXX5.out.lt
              have h6c := B65.out.cell
              have h6z := B65.out.frozen
              have h6l := B65.out.lt
              have h7c := B75.out.cell
              have h7z := B75.out.frozen
              have h7l := B75.out.lt
              rcases q with _ | _
              · have HR3 := hd (HR2.out.trans (if_neg (by decide)))
                rcases wait with _ | _
                · have HRR := hd (HR3.out.trans (if_pos rfl))
                  have HUL := HUL5
                  have B6 := B65
                  have B7 := B75
                  go_wp2_with fail
                  have hkk := HKK.out
                  refine bodyPost_ret (res_ra _ 6 7 8 9 rfl _ _ k6 k7 (.slice a1 lh.length c1) (.slice a2 lw.length c2) (last) (zeroK, .slice none 0 0) (.int .i64 (0)) (.int .i64 (16)) rfl rfl rfl rfl ?b6 ⟨_, _, _, rfl⟩ ⟨_, _, _, rfl⟩ ?b7 ⟨_, _, _, rfl⟩) rfl ?fin
                  case b6 =>
                    repeat (first | with_reducible refine Blk.drew ?_ | with_reducible refine Blk.off ?_ n67)
                    with_reducible refine putB (c0 := .slice none 0 0) (c1 := .slice none 0 0) (c2 := .int .u64 0) ?_ _ _ _
                    repeat (first | with_reducible refine Blk.drew ?_ | with_reducible refine Blk.off ?_ n67)
                    exact B6.out
                  case b7 =>
                    show Blk _ k7 #[.int .i64 0, .slice none 0 0, .bool false, .int .u64 0] _
                    repeat (first | with_reducible refine Blk.drew ?_ | with_reducible refine Blk.off ?_ n76)
                    with_reducible refine putR (c0 := .int .i64 0) (c1 := .slice none 0 0) (c2 := .bool false) (c3 := .int .u64 0) ?_ _ _ _ _
                    repeat (first | with_reducible refine Blk.drew ?_ | with_reducible refine Blk.off ?_ n76)
                    exact B7.out
                  case fin =>
                    rw [HRR.out]
                    skip
                    refine ⟨lh, lw, .slice a1 lh.length c1, .slice a2 lw.length c2, (zeroK, .slice none 0 0), rfl, rfl, ?_, ?_, ?_, HSIX.out, ?_⟩
                    · refine HH.out.later ?_
                      repeat (first | with_reducible exact HUL.out | with_reducible refine Upd.drew ?_ | with_reducible refine Upd.setCell ?_ (.inr (by simp only; omega)) _)
                    · refine HWW.out.later ?_
                      repeat (first | with_reducible exact HUL.out | with_reducible refine Upd.drew ?_ | with_reducible refine Upd.setCell ?_ (.inr (by simp only; omega)) _)
                    · exact World.ownsRow_nil _ _ _ _
                    · repeat (first | with_reducible exact HUL.out | with_reducible refine Upd.drew ?_ | with_reducible refine Upd.setCell ?_ (.inr (by simp only; omega)) _)
                · have HR4 := hd (HR3.out.trans (if_neg (by decide)))
                  by_cases hwn : 8 ≤ lw.length
                  · have hwn' : (7 : Int) < (lw.length : Int) := by omega
                    have HRR := hd (HR4.out.trans (if_pos hwn))
                    have HUL := HUL5
                    have B6 := B65
                    have B7 := B75
                    go_wp2_with fail
                    have hkk := HKK.out
                    refine bodyPost_ret (res_ra _ 6 7 8 9 rfl _ _ k6 k7 (.slice a1 lh.length c1) (.slice a2 lw.length c2) (last) (zeroK, .slice none 0 0) (.int .i64 (0)) (.int .i64 (17)) rfl rfl rfl rfl ?b6 ⟨_, _, _, rfl⟩ ⟨_, _, _, rfl⟩ ?b7 ⟨_, _, _, rfl⟩) rfl ?fin
                    case b6 =>
                      repeat (first | with_reducible refine Blk.drew ?_ | with_reducible refine Blk.off ?_ n67)
                      with_reducible refine putB (c0 := .slice none 0 0) (c1 := .slice none 0 0) (c2 := .int .u64 0) ?_ _ _ _
                      repeat (first | with_reducible refine Blk.drew ?_ | with_reducible refine Blk.off ?_ n67)
                      exact B6.out
                    case b7 =>
                      show Blk _ k7 #[.int .i64 0, .slice none 0 0, .bool false, .int .u64 0] _
                      repeat (first | with_reducible refine Blk.drew ?_ | with_reducible refine Blk.off ?_ n76)
                      with_reducible refine putR (c0 := .int .i64 0) (c1 := .slice none 0 0) (c2 := .bool false) (c3 := .int .u64 0) ?_ _ _ _ _
                      repeat (first | with_reducible refine Blk.drew ?_ | with_reducible refine Blk.off ?_ n76)
                      exact B7.out
                    case fin =>
                      rw [HRR.out]
                      skip
                      refine ⟨lh, lw, .slice a1 lh.length c1, .slice a2 lw.length c2, (zeroK, .slice none 0 0), rfl, rfl, ?_, ?_, ?_, HSIX.out, ?_⟩
                      · refine HH.out.later ?_
                        repeat (first | with_reducible exact HUL.out | with_reducible refine Upd.drew ?_ | with_reducible refine Upd.setCell ?_ (.inr (by simp only; omega)) _)
                      · refine HWW.out.later ?_
                        repeat (first | with_reducible exact HUL.out | with_reducible refine Upd.drew ?_ | with_reducible refine Upd.setCell ?_ (.inr (by simp only; omega)) _)
                      · exact World.ownsRow_nil _ _ _ _
                      · repeat (first | with_reducible exact HUL.out | with_reducible refine Upd.drew ?_ | with_reducible refine Upd.setCell ?_ (.inr (by simp only; omega)) _)
                  · have hwn' : ¬ (7 : Int) < (lw.length : Int) := by omega
                    have HRR := hd (HR4.out.trans (if_neg hwn))
                    clear hwn
                    go_upto_region 25 with fail
                    go_cut [97] (fun s97 wx => ∃ a c, s97 = .slice a (lw.length + 1) c ∧ Blk wx kb #[.slice a1 lh.length c1, .slice a (lw.length + 1) c, .int .u64 last] 29 ∧ Blk wx kx #[.int .i64 x.1.ses, .slice qa xn qc, .bool x.1.excl, .int .u64 0] 67 ∧ Blk wx k6 #[.slice none 0 0, .slice none 0 0, .int .u64 0] 29 ∧ Blk wx k7 #[.int .i64 0, .slice none 0 0, .bool false, .int .u64 0] 67 ∧
                      wx.ownsRow w.heap.size 67 4 (.slice a (lw.length + 1) c) (lw.length + 1) (rCells (lw ++ [(({ x.1 with tok := 0 }, x.2) : RLk)])) ∧ Upd [] w wx ∧ (Value.slice a (lw.length + 1) c).ownBlock ≠ some k7)
                    case first =>
                      have HXC := hd (show (rcel (({ x.1 with tok := 0 }, x.2) : RLk)).toArray = #[.int .i64 x.1.ses, .slice qa xn qc, .bool x.1.excl, .int .u64 0] by unfold rcel; rw [HXV.out])
                      have HXP := hd (own_mono HX.out (B' := 0) (Nat.zero_le _))
                      have nxb : ¬ (kx = kb) := fun e => nbx e.symm
                      have n6b : ¬ (k6 = kb) := fun e => nb6 e.symm
                      have n7b : ¬ (k7 = kb) := fun e => nb7 e.symm
                      go_region_law (first
                        | (refine step_rkAppend rfl _ _ (by rfl) w5.heap.size B _ _ [] lw (by rfl) (by rfl) (empty_row (by repeat (first | with_reducible exact Blk.new' _ _ _ (by simp) | with_reducible refine Blk.alloc ?_ _ | with_reducible refine Blk.drew ?_)) (by simp)) ((HWW.out.later HUL5.out).later (by repeat (first | with_reducible exact Upd.refl _ _ | with_reducible refine Upd.alloc ?_ _ | with_reducible refine Upd.drew ?_))) (by simp) (by omega) (by simp <;> omega) ?_
                           intro a6 c6 w6 hown6 hu6
                           have hU6 : Upd [] w5 w6 := Upd.trans' (by repeat (first | with_reducible exact Upd.refl _ _ | with_reducible refine Upd.alloc ?_ _ | with_reducible refine Upd.drew ?_)) hu6 (by simp [Value.ownBlock])
                           first
                             | (have hqxA := hd (xrow_a hu6))
                             | (have hqxA := hd (xrow_b hu6))
                             | skip
                           have hqc1 := (HBX5.out.upd hU6 (by simp)).cell
                           have hqc2 := (HXX5.out.upd hU6 (by simp)).cell
                           have hql1 := Nat.lt_of_lt_of_le hlb hU6.size
                           have hql2 := Nat.lt_of_lt_of_le hlx hU6.size
                           have QO := hd hown6
                           have QU := hd hU6
                           have QS := hd hU6.size
                           clear hown6 hu6 hU6)
                        | (refine step_rkAppend rfl _ _ (by rfl) w5.heap.size 0 _ _ ([] ++ lw) [(({ x.1 with tok := 0 }, x.2) : RLk)] (by rfl) (by rfl) (own_upd (L := []) QO.out (by repeat (first | with_reducible exact Upd.refl _ _ | with_reducible refine Upd.alloc ?_ _ | with_reducible refine Upd.drew ?_)) (by simp)) (rone_row (C := 0) (by rw [HXC.out]; first | exact hqxA.out | (repeat (first | with_reducible exact Blk.new' _ _ _ (by simp) | with_reducible refine Blk.alloc ?_ _ | with_reducible refine Blk.drew ?_))) (Nat.zero_le _) (own_upd (L := []) (own_upd (L := []) HXP.out (HUL5.out.trans QU.out) (by simp)) (by repeat (first | with_reducible exact Upd.refl _ _ | with_reducible refine Upd.alloc ?_ _ | with_reducible refine Upd.drew ?_)) (by simp))) (by simp <;> omega) (by simp) (by have := QS.out; simp <;> omega) ?_
                           intro a7 c7 w7 hown7 hu7
                           have RU := hd (rg_up (W2 := w5) QU.out (by repeat (first | with_reducible exact Upd.refl _ _ | with_reducible refine Upd.alloc ?_ _ | with_reducible refine Upd.drew ?_)) hu7 QO.out)
                           have hrc1 := (HBX5.out.upd RU.out (by simp)).cell
                           have hrf1 := (HBX5.out.upd RU.out (by simp)).frozen
                           have hrl1 := Nat.lt_of_lt_of_le hlb RU.out.size
                           have RO := hd hown7
                           clear hown7 hu7)
                        | fail "no arm")
                      all_goals
                        go_wp2_with fail
                        go_meet
                        case rel => exact ⟨a7, c7, by simp, rg_leaf1 HBX5.out HXX5.out B65.out B75.out HUL5.out RU.out HKK.out.1 hlb (by simpa using RO.out) nxb n6b n7b⟩
                    case rest =>
                      obtain ⟨a7, c7, rfl, hb7', hx7', h67', h77', hown7, huf, hn77⟩ := hcut
                      have HN7 := hd hn77
                      have HO8 := hd hown7
                      have HUL := hd huf
                      have B6 := hd h67'
                      have B7 := hd h77'
                      have HBB := hd hb7'
                      have j1 := hb7'.cell
                      have j2 := hb7'.lt
                      have j3 := hx7'.cell
                      have j4 := hx7'.lt
                      have j5 := h67'.cell
                      have j6 := h67'.frozen
                      have j7 := h67'.lt
                      have j8 := h77'.cell
                      have j9 := h77'.frozen
                      have j0 := h77'.lt
                      have HXC := hd (show (rcel (({ x.1 with tok := 0 }, x.2) : RLk)).toArray = #[.int .i64 x.1.ses, .slice qa xn qc, .bool x.1.excl, .int .u64 0] by unfold rcel; rw [HXV.out])
                      have HXR := hd (show rval (({ x.1 with tok := 0 }, x.2) : RLk) = .agg #[.int .i64 x.1.ses, .slice qa xn qc, .bool x.1.excl, .int .u64 0] by unfold rval; rw [HXV.out])
                      have HG6 := hd (show ∀ e ∈ lh ++ (lw ++ [(({ x.1 with tok := 0 }, x.2) : RLk)]), Six e.1.path from fun e he => by
                        rcases List.mem_append.1 he with he | he
                        · exact HSIX.out e (List.mem_append_left _ he)
                        · rcases List.mem_append.1 he with he | he
                          · exact HSIX.out e (List.mem_append_right _ he)
                          · rw [List.mem_singleton.1 he]; exact HX6.out)
                      clear hb7' hx7' h67' h77' hown7 huf hn77 hcb hbz hlb hcx hlx h6c h6z h6l h7c h7z h7l
                      go_upto_region 26 with fail
                      go_region
                      all_goals
                        go_wp2_with fail
                        have hkk := HKK.out
                        refine bodyPost_ret (res_ra _ 6 7 8 9 rfl _ _ k6 k7 (.slice a1 lh.length c1) (.slice a7 (lw.length + 1) c7) (last) (({ x.1 with tok := 0 }, x.2) : RLk) (.int .i64 ((lw.length : Int) + 1)) (.int .i64 (0)) rfl rfl rfl rfl ?b6 ⟨_, _, _, rfl⟩ ⟨_, _, _, rfl⟩ ?b7 ⟨_, _, _, HXV.out⟩) rfl ?fin
                        case b6 =>
                          repeat (first | with_reducible refine Blk.drew ?_ | with_reducible refine Blk.off ?_ n67)
                          with_reducible refine putB (c0 := .slice none 0 0) (c1 := .slice none 0 0) (c2 := .int .u64 0) ?_ _ _ _
                          repeat (first | with_reducible refine Blk.drew ?_ | with_reducible refine Blk.off ?_ n67)
                          exact B6.out
                        case b7 =>
                          rw [HXC.out]
                          repeat (first | with_reducible refine Blk.drew ?_ | with_reducible refine Blk.off ?_ n76)
                          with_reducible refine putR (c0 := .int .i64 0) (c1 := .slice none 0 0) (c2 := .bool false) (c3 := .int .u64 0) ?_ _ _ _ _
                          repeat (first | with_reducible refine Blk.drew ?_ | with_reducible refine Blk.off ?_ n76)
                          exact B7.out
                        case fin =>
                          rw [HRR.out]
                          skip
                          refine ⟨lh, lw ++ [(({ x.1 with tok := 0 }, x.2) : RLk)], .slice a1 lh.length c1, .slice a7 (lw.length + 1) c7, (({ x.1 with tok := 0 }, x.2) : RLk), rfl, rfl, ?_, ?_, ?_, HG6.out, ?_⟩
                          · refine HH.out.later ?_
                            repeat (first | with_reducible exact HUL.out | with_reducible refine Upd.drew ?_ | with_reducible refine Upd.setCell ?_ (.inr (by simp only; omega)) _)
                          · refine RRow.mk (own_mono (own_upd (L := [k6, k7]) (by rw [List.length_append]; exact HO8.out) (by repeat (first | with_reducible exact Upd.refl _ _ | with_reducible refine Upd.drew ?_ | with_reducible refine Upd.setCell ?_ (.inl (by simp)) _)) (fun g hg hm => by simp only [List.mem_cons, List.not_mem_nil, or_false] at hm; rcases hm with hm | hm; exact own_ne_any HO8.out B6.out (by decide) g hg hm; exact HN7.out (by rw [← hm]; exact hg))) hB) (fun e he => (List.mem_append.1 he).elim (fun h => own_upd (L := []) (HWW.out.path e h) ?_ (by simp)) (fun h => by rw [List.mem_singleton.1 h]; exact own_upd (L := []) HX.out (by repeat (first | with_reducible exact HUL.out | with_reducible refine Upd.drew ?_ | with_reducible refine Upd.setCell ?_ (.inr (by simp only; omega)) _)) (by simp)))
                            repeat (first | with_reducible exact HUL.out | with_reducible refine Upd.drew ?_ | with_reducible refine Upd.setCell ?_ (.inr (by simp only; omega)) _)
                          · exact own_upd (L := []) HX.out (by repeat (first | with_reducible exact HUL.out | with_reducible refine Upd.drew ?_ | with_reducible refine Upd.setCell ?_ (.inr (by simp only; omega)) _)) (by simp)
                          · repeat (first | with_reducible exact HUL.out | with_reducible refine Upd.drew ?_ | with_reducible refine Upd.setCell ?_ (.inr (by simp only; omega)) _)
              · have HR3 := hd (HR2.out.trans (if_pos rfl))
                by_cases hla : last = 18446744073709551615
                · have hla' : (last == 18446744073709551615) = true := by simpa using hla
                  have HRR := hd (HR3.out.trans (if_pos hla))
                  have HUL := HUL5
                  have B6 := B65
                  have B7 := B75
                  clear hla
                  go_wp2_with fail
                  have hkk := HKK.out
                  refine bodyPost_ret (res_ra _ 6 7 8 9 rfl _ _ k6 k7 (.slice a1 lh.length c1) (.slice a2 lw.length c2) (last) (zeroK, .slice none 0 0) (.int .i64 (0)) (.int .i64 (19)) rfl rfl rfl rfl ?b6 ⟨_, _, _, rfl⟩ ⟨_, _, _, rfl⟩ ?b7 ⟨_, _, _, rfl⟩) rfl ?fin
                  case b6 =>
                    repeat (first | with_reducible refine Blk.drew ?_ | with_reducible refine Blk.off ?_ n67)
                    with_reducible refine putB (c0 := .slice none 0 0) (c1 := .slice none 0 0) (c2 := .int .u64 0) ?_ _ _ _
                    repeat (first | with_reducible refine Blk.drew ?_ | with_reducible refine Blk.off ?_ n67)
                    exact B6.out
                  case b7 =>
                    show Blk _ k7 #[.int .i64 0, .slice none 0 0, .bool false, .int .u64 0] _
                    repeat (first | with_reducible refine Blk.drew ?_ | with_reducible refine Blk.off ?_ n76)
                    with_reducible refine putR (c0 := .int .i64 0) (c1 := .slice none 0 0) (c2 := .bool false) (c3 := .int .u64 0) ?_ _ _ _ _
                    repeat (first | with_reducible refine Blk.drew ?_ | with_reducible refine Blk.off ?_ n76)
                    exact B7.out
                  case fin =>
                    rw [HRR.out]
                    skip
                    refine ⟨lh, lw, .slice a1 lh.length c1, .slice a2 lw.length c2, (zeroK, .slice none 0 0), rfl, rfl, ?_, ?_, ?_, HSIX.out, ?_⟩
                    · refine HH.out.later ?_
                      repeat (first | with_reducible exact HUL.out | with_reducible refine Upd.drew ?_ | with_reducible refine Upd.setCell ?_ (.inr (by simp only; omega)) _)
                    · refine HWW.out.later ?_
                      repeat (first | with_reducible exact HUL.out | with_reducible refine Upd.drew ?_ | with_reducible refine Upd.setCell ?_ (.inr (by simp only; omega)) _)
                    · exact World.ownsRow_nil _ _ _ _
                    · repeat (first | with_reducible exact HUL.out | with_reducible refine Upd.drew ?_ | with_reducible refine Upd.setCell ?_ (.inr (by simp only; omega)) _)
                · have hla' : (last == 18446744073709551615) = false := by simpa using hla
                  have HRR := hd (HR3.out.trans (if_neg hla))
                  have HG := hd (HGR.out (by omega) w5 HUL5.out)
                  clear hla HGR HMY
                  go_wp2_with fail
                  refine HG.out.mono ?_
                  rintro r w6 ⟨vh6, rfl, ho6, hu6⟩
                  have HUL6 := hd (HUL5.out.trans hu6)
                  have B66 := hd (B65.out.upd hu6 (by simp))
                  have B76 := hd (B75.out.upd hu6 (by simp))
                  have HGE := hd (own_ge ho6)
                  have hln : (lh ++ [rtok last (({ x.1 with tok := 0 }, x.2) : RLk)]).length = lh.length + 1 := by simp
                  rw [hln] at ho6
                  have HO6 := hd ho6
                  obtain ⟨a6, c6, rfl, -⟩ := own_open ho6
                  have H57 := hd (show k6 < w5.heap.size ∧ k7 < w5.heap.size from ⟨B65.out.lt, B75.out.lt⟩)
                  have HS6 := hd (show w5.heap.size ≤ w6.heap.size from hu6.size)
                  have e2 := two_lk2 w6 #[.slice a6 (lh.length + 1) c6, .slice a2 lw.length c2, .int .u64 (last + 1)] #[.int .i64 x.1.ses, .slice qa xn qc, .bool x.1.excl, .int .u64 (last + 1)] 29 67
                  clear hu6 ho6 hcb hbz hlb hcx hlx h6c h6z h6l h7c h7z h7l HG hln
                  go_upto_region 20 with fail
                  obtain ⟨W8, k8, k9, hk8, hk9, hW8, hu8, hb8, hb9⟩ := e2
                  rw [hW8, hk8, hk9]
                  have HUL := hd (HUL6.out.trans hu8)
                  have B6 := hd (B66.out.upd hu8 (by simp))
                  have B7 := hd (B76.out.upd hu8 (by simp))
                  have HO8 := hd (own_upd (L := []) HO6.out hu8 (by simp))
                  have n86 : ¬ (k8 = k6) := by have := H57.out; have := HS6.out; omega
                  have n87 : ¬ (k8 = k7) := by have := H57.out; have := HS6.out; omega
                  have n96 : ¬ (k9 = k6) := by have := H57.out; have := HS6.out; omega
                  have n97 : ¬ (k9 = k7) := by have := H57.out; have := HS6.out; omega
                  have h8c := hb8.cell
                  have h8l := hb8.lt
                  have h9c := hb9.cell
                  have h9l := hb9.lt
                  have h6c := B6.out.cell
                  have h6z := B6.out.frozen
                  have h6l := B6.out.lt
                  have h7c := B7.out.cell
                  have h7z := B7.out.frozen
                  have h7l := B7.out.lt
                  have HTC := hd (show (rcel (rtok last x)).toArray = #[.int .i64 x.1.ses, .slice qa xn qc, .bool x.1.excl, .int .u64 (last + 1)] by unfold rcel rtok; rw [HXV.out])
                  have HG6 := hd (show ∀ e ∈ (lh ++ [rtok last x]) ++ lw, Six e.1.path from fun e he => by
                    rcases List.mem_append.1 he with he | he
                    · rcases List.mem_append.1 he with he | he
                      · exact HSIX.out e (List.mem_append_left _ he)
                      · rw [List.mem_singleton.1 he]; exact HX6.out
                    · exact HSIX.out e (List.mem_append_right _ he))
                  clear hW8 hk8 hk9 hu8 hb8 hb9
                  go_region
                  all_goals
                    go_wp2_with fail
                    have hkk := HKK.out
                    refine bodyPost_ret (res_ra _ 6 7 8 9 rfl _ _ k6 k7 (.slice a6 (lh.length + 1) c6) (.slice a2 lw.length c2) (last + 1) (rtok last x) (.int .i64 (0)) (.int .i64 (0)) rfl rfl rfl rfl ?b6 ⟨_, _, _, rfl⟩ ⟨_, _, _, rfl⟩ ?b7 ⟨_, _, _, HXV.out⟩) rfl ?fin
                    case b6 =>
                      repeat (first | with_reducible refine Blk.drew ?_ | with_reducible refine Blk.off ?_ n67)
                      with_reducible refine putB (c0 := .slice none 0 0) (c1 := .slice none 0 0) (c2 := .int .u64 0) ?_ _ _ _
                      repeat (first | with_reducible refine Blk.drew ?_ | with_reducible refine Blk.off ?_ n67)
                      exact B6.out
                    case b7 =>
                      rw [HTC.out]
                      repeat (first | with_reducible refine Blk.drew ?_ | with_reducible refine Blk.off ?_ n76)
                      with_reducible refine putR (c0 := .int .i64 0) (c1 := .slice none 0 0) (c2 := .bool false) (c3 := .int .u64 0) ?_ _ _ _ _
                      repeat (first | with_reducible refine Blk.drew ?_ | with_reducible refine Blk.off ?_ n76)
                      exact B7.out
                    case fin =>
                      rw [HRR.out]
                      skip
                      refine ⟨lh ++ [rtok last x], lw, .slice a6 (lh.length + 1) c6, .slice a2 lw.length c2, (rtok last x), rfl, rfl, ?_, ?_, ?_, HG6.out, ?_⟩
                      · refine RRow.mk (own_mono (own_upd (L := [k6, k7]) (by rw [List.length_append]; exact HO8.out) (by repeat (first | with_reducible exact Upd.refl _ _ | with_reducible refine Upd.drew ?_ | with_reducible refine Upd.setCell ?_ (.inl (by simp)) _)) (fun g hg hm => by have h1 := (HGE.out g hg).1; have h2 := H57.out; simp only [List.mem_cons, List.not_mem_nil, or_false] at hm; omega)) (by have := HUL5.out.size; omega)) (fun e he => (List.mem_append.1 he).elim (fun h => own_upd (L := []) (HH.out.path e h) ?_ (by simp)) (fun h => by rw [List.mem_singleton.1 h]; exact own_upd (L := []) HX.out (by repeat (first | with_reducible exact HUL.out | with_reducible refine Upd.drew ?_ | with_reducible refine Upd.setCell ?_ (.inr (by simp only; omega)) _)) (by simp)))
                        repeat (first | with_reducible exact HUL.out | with_reducible refine Upd.drew ?_ | with_reducible refine Upd.setCell ?_ (.inr (by simp only; omega)) _)
                      · refine HWW.out.later ?_
                        repeat (first | with_reducible exact HUL.out | with_reducible refine Upd.drew ?_ | with_reducible refine Upd.setCell ?_ (.inr (by simp only; omega)) _)
                      · exact own_upd (L := []) HX.out (by repeat (first | with_reducible exact HUL.out | with_reducible refine Upd.drew ?_ | with_reducible refine Upd.setCell ?_ (.inr (by simp only; omega)) _)) (by simp)
                      · repeat (first | with_reducible exact HUL.out | with_reducible refine Upd.drew ?_ | with_reducible refine Upd.setCell ?_ (.inr (by simp only; omega)) _)
end Go.Proofs.YtpniggmdokkkcaaGreatDoor
