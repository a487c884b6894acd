/-
  without, grant of the document's book, walked. Conditions: good paths.
-/
import Derived.Test.YtpniggmdokkkcaaGreatDoorMb13
import Derived.Deep.RegionLaw
set_option linter.unusedVariables false
set_option linter.unusedSimpArgs false
set_option maxRecDepth 100000
namespace Go.Proofs.YtpniggmdokkkcaaGreatDoor
open Go.RowKit

theorem empty_row {w : World} {k B : Nat} (h : Blk w k #[] 67) (hB : B ≤ k) : w.ownsRow B 67 4 (.slice (some ⟨k, 0, none⟩) 0 0) ([] : List RLk).length (rCells []) :=
  ⟨rfl, .inr ⟨k, 0, #[], rfl, hB, h, Nat.le_refl _, by unfold maxLen; omega, rfl, rfl⟩⟩
def keepR (key : LkS) (all : Bool) (e : LkS) : Bool := decide (e.ses ≠ key.ses) || (!all && !sameB key e)
theorem keepR_take {key : LkS} {all : Bool} {l : List RLk} {t : Nat} (ht : t < l.length) : (l.take (t + 1)).filter (fun e => keepR key all e.1) = (l.take t).filter (fun e => keepR key all e.1) ++ (if keepR key all l[t].1 then [l[t]] else []) := by
  rw [List.take_succ_eq_append_getElem ht, List.filter_append]
  congr 1
  cases h : keepR key all l[t].1 <;> simp [h]

set_option maxHeartbeats 4000000 in
theorem rwithout_any {B : Nat} {vl vp : Value} {l : List RLk} (s : Int) (all : Bool) (p : List (List UInt8)) (w : World) (hh : RRow B w vl l) (hp : TxsAt w vp p) (h61 : ∀ e ∈ l, Six e.1.path) (hp6 : Six p) (hl : l.length ≤ 1024) (hB : B ≤ w.heap.size) :
    Calls Tryz.prog 48 #[vl, .int .i64 s, .bool all, vp] w fun r w' => ∃ v', r = .returned v' ∧ RRow B w' v' (l.filter fun e => keepR ⟨s, p, false, 0⟩ all e.1) ∧ Upd [] w w' := by
  have hp0 := hp
  obtain ⟨pa, pc, hpv, -⟩ := hp0
  have HS1 := hd (fun e (he' : e ∈ l) W (hu : Upd [] w W) => rsame_any (B := B) e s p vp W (own_upd (L := []) (hh.path e he') hu (by simp)) (hp.upd hu) (h61 e he') hp6)
  have HRV := hd (fun e a c (h : e.2 = .slice a e.1.path.length c) => show rval e = .agg #[.int .i64 e.1.ses, .slice a e.1.path.length c, .bool e.1.excl, .int .u64 e.1.tok] by unfold rval; rw [h])
  rw [hpv] at HS1 ⊢
  have HH := hd hh
  obtain ⟨a1, c1, rfl, hn1, hm1, -⟩ := own_open hh.own
  clear hh hp h61 hp6 hm1 hn1 hpv
  obtain ⟨key, hkey⟩ : ∃ key : LkS, key = ⟨s, p, false, 0⟩ := ⟨_, rfl⟩
  rw [← hkey] at HS1 ⊢
  have HK := hd (fun e : LkS => show keepR key all e = (decide (e.ses ≠ s) || (!all && !sameB key e)) by unfold keepR; rw [hkey])
  have HKT := hd (fun t ht => keepR_take (key := key) (all := all) (l := l) (t := t) ht)
  clear hkey
  generalize p.length = pn at *
  have e0 := one_lk w #[] 67
  go_enter Tryz.func48, Tryz.ntmps48
  go_upto_region 2 with fail
  obtain ⟨W0, k0, hk0, hW0, hu0, hb0⟩ := e0
  rw [hW0, hk0]
  have HU0 := hd hu0
  have HE0 := hd (empty_row hb0 (B := w.heap.size) (by omega))
  clear hk0 hW0 hu0 hb0
  go_wp2_with fail
  go_loopw [9, 15] (fun s9 s15 wr => ∃ t : Nat, s15 = .int .i64 t ∧ t ≤ l.length ∧ wr.ownsRow w.heap.size 67 4 s9 ((l.take t).filter fun e => keepR key all e.1).length (rCells ((l.take t).filter fun e => keepR key all e.1)) ∧ Upd [] w wr) (fun _ s15 _ => l.length - (intOf s15).toNat)
  case atStart => exact ⟨0, rfl, by omega, HE0.out, HU0.out⟩
  case round =>
    clear HE0 HU0
    obtain ⟨t, rfl, ht, hrow, hu⟩ := hrel
    have HU := hd hu
    have HROW := hd hrow
    have hwsz := hu.size
    have hcn := List.length_filter_le (fun e : RLk => keepR key all e.1) (l.take t)
    rw [List.length_take] at hcn
    by_cases htn : t < l.length
    · have htn' : (t : Int) < (l.length : Int) := by omega
      obtain ⟨g, qa, qc, rfl, hgl, hqv, d0, d1, d2, d3⟩ := rk_get HH.out rfl HU.out t htn
      have HCF := hd (HS1.out l[t] (List.getElem_mem _))
      have HT := hd (HKT.out t htn)
      have HPT := hd (HH.out.path l[t] (List.getElem_mem _))
      have HV := hd (HRV.out l[t] qa qc hqv)
      rw [HV.out] at HCF
      have e1 := one_lk wr #[.int .i64 l[t].1.ses, .slice qa l[t].1.path.length qc, .bool l[t].1.excl, .int .u64 l[t].1.tok] 67
      have HQV := hd hqv
      have HKY := hd (HK.out l[t].1)
      clear hqv hu hrow
      generalize l[t] = y at *
      generalize hyn : y.1.path.length = yn at *
      generalize (l.take t).filter (fun e => keepR key all e.1) = acc at *
      obtain ⟨a9, c9, rfl, -⟩ := own_open HROW.out
      go_upto_region 5 with fail
      obtain ⟨W3, k3, hk3, hW3, hu3, hb3⟩ := e1
      rw [hW3, hk3]
      have HU3 := hd (HU.out.trans hu3)
      have HUV3 := hd hu3
      have HB3 := hd hb3
      have hc3 := hb3.cell
      have HC3 := hd (HCF.out W3 HU3.out)
      clear hk3 hW3 hu3 hb3 d0 d1 d2 d3 hyn
      go_cut [33] (fun s33 wx => s33 = .bool (keepR key all y.1) ∧ Upd [] W3 wx)
      case first =>
        generalize sameB key y.1 = q at *
        by_cases hs : y.1.ses = s
        · have hs' : (y.1.ses != s) = false := by simp [hs]
          have HS := hd hs
          clear hs
          rcases all with _ | _
          · go_wp2_with fail
            refine HC3.out.mono ?_
            rintro r w4 ⟨rfl, hu4⟩
            go_wp2_with fail
            go_meet
            case rel => exact ⟨by rw [HKY.out]; simp [HS.out], hu4⟩
          · go_wp2_with fail
            go_meet
            case rel => exact ⟨by rw [HKY.out]; simp [HS.out], Upd.refl _ _⟩
        · have hs' : (y.1.ses != s) = true := by simpa using hs
          have HS := hd hs
          clear hs
          go_wp2_with fail
          go_meet
          case rel => exact ⟨by rw [HKY.out]; simp [HS.out], Upd.refl _ _⟩
      case rest =>
        obtain ⟨rfl, hu4⟩ := hcut
        have HU4 := hd (HU3.out.trans hu4)
        have HUV4 := hd (HUV3.out.trans hu4)
        have hb4 := HB3.out.upd hu4 (by simp)
        have hc4 := hb4.cell
        have HR4 := hd (own_upd (L := []) HROW.out HUV4.out (by simp))
        have HGE := hd (own_ge HROW.out)
        have hsz4 : w.heap.size ≤ wc.heap.size := HU4.out.size
        clear hc3 hu4 hb4 HKY
        cases hkq : keepR key all y.1 with
        | true =>
          rw [hkq] at HT
          have HP4 := hd (own_upd (L := []) HPT.out HU4.out (by simp))
          clear hkq
          go_wp2_with (at_builtin; refine rkAppend rfl _ _ rfl w.heap.size B _ _ acc [y] rfl (own_upd (L := []) HR4.out ((Upd.refl _ _).alloc _) (by simp)) rfl (rone_row (e := y) (by unfold rcel; rw [HQV.out]; exact Blk.new' _ _ _ rfl) (by omega) (own_upd (L := []) HP4.out ((Upd.refl _ _).alloc _) (by simp))) (by omega) (by simp) (by simp; omega) ?_)
          intro v6 w6 hown6 hu6 hat6
          have HO6 := hd hown6
          have HU6 := hd ((HU4.out.alloc (.cells #[.int .i64 y.1.ses, .slice qa yn qc, .bool y.1.excl, .int .u64 y.1.tok] 67)).trans' hu6 (fun i hi => .inr (HGE.out i (by simpa using hi)).1))
          obtain ⟨a6, c6, rfl, -⟩ := own_open hown6
          clear hown6 hu6 hat6
          go_wp2_with fail
          go_roundw
          case rel =>
            refine ⟨t + 1, by go_num, by omega, ?_, HU6.out⟩
            rw [HT.out]
            simpa using HO6.out
          case measure => simp [intOf]; omega
        | false =>
          rw [hkq] at HT
          clear hkq
          go_wp2_with fail
          go_roundw
          case rel =>
            refine ⟨t + 1, by go_num, by omega, ?_, HU4.out⟩
            rw [HT.out]
            simpa using HR4.out
          case measure => simp [intOf]; omega
    · obtain rfl : t = l.length := by omega
      obtain ⟨a9, c9, rfl, -⟩ := own_open HROW.out
      have HE : Hd (RRow B wr (.slice a9 ((l.take l.length).filter fun e => keepR key all e.1).length c9) (l.filter fun e => keepR key all e.1)) := by
        refine hd ⟨?_, fun e he => own_upd (L := []) (HH.out.path e (List.mem_filter.1 he).1) HU.out (by simp)⟩
        have h := own_mono HROW.out hB
        rw [List.take_length] at h ⊢
        exact h
      clear hu hrow
      generalize ((l.take l.length).filter fun e => keepR key all e.1).length = nn at *
      go_wp2_with fail
      go_ret
      exact ⟨_, rfl, HE.out, HU.out⟩
end Go.Proofs.YtpniggmdokkkcaaGreatDoor

/-
  grant of the document's book, walked. Conditions: a token is left.
-/
set_option linter.unusedVariables false
set_option linter.unusedSimpArgs false
set_option maxRecDepth 100000
namespace Go.Proofs.YtpniggmdokkkcaaGreatDoor
open Go.RowKit

theorem four_lk (w : World) (c d e f : Array Value) (S T U V : TypeId) : ∃ W k j i h, w.heap.size = k ∧ k + 1 = j ∧ j + 1 = i ∧ i + 1 = h ∧ (((w.alloc (.cells c S)).alloc (.cells d T)).alloc (.cells e U)).alloc (.cells f V) = W ∧ Upd [] w W ∧ Blk W k c S ∧ Blk W j d T ∧ Blk W i e U ∧ Blk W h f V := by
  obtain ⟨W, k, j, i, hk, hj, hi, hW, hu, h1, h2, h3⟩ := three_lk w c d e S T U
  subst hW
  refine ⟨_, k, j, i, i + 1, hk, hj, hi, rfl, rfl, hu.alloc _, h1.alloc _, h2.alloc _, h3.alloc _, ?_⟩
  have := Blk.new (((w.alloc (.cells c S)).alloc (.cells d T)).alloc (.cells e U)) f V
  simpa [← hk, ← hj, ← hi] using this
theorem res_rg (fn : Func) (s t : Nat) (hr : fn.results = #[.cell s 29, .cell t 67]) (tmps : Array Value) (W : World) (k j : Nat) (vh vw : Value) (last : Int) (e : RLk) (hs : tmps[s]? = some (.pointer (some ⟨k, 0, none⟩))) (ht : tmps[t]? = some (.pointer (some ⟨j, 0, none⟩)))
    (h : Blk W k #[vh, vw, .int .u64 last] 29) (h1 : ∃ a n c, vh = .slice a n c) (h2 : ∃ a n c, vw = .slice a n c) (h' : Blk W j (rcel e).toArray 67) (hp : ∃ a n c, e.2 = .slice a n c) :
    (results fn tmps).run Tryz.prog W = .ok (.tuple #[.agg #[vh, vw, .int .u64 last], rval e]) W := by
  simp [results, hr, hs, ht, asAddr, load_rb W k vh vw last h h1 h2, load_rk W j e h' hp]
theorem Blk.off {w : World} {k j o : Nat} {c : Array Value} {T : TypeId} {v : Value} (h : Blk w k c T) (hj : ¬ k = j) : Blk (w.setCell ⟨j, o, none⟩ v) k c T := h.set_other hj v
theorem xrow_a {W2 w5 : World} {c : Array Value} {T T' : TypeId} {n m : Nat} (hu : Upd (Value.slice (some ⟨W2.heap.size + 1, 0, none⟩) n m).ownBlock.toList ((W2.alloc (.cells c T)).alloc (.cells #[] T')).drew w5) : Blk w5 W2.heap.size c T :=
  Blk.upd (Blk.drew (Blk.alloc (Blk.new' W2 _ _ rfl) _)) hu (by simp [Value.ownBlock])
theorem xrow_b {W2 w5 : World} {c d : Array Value} {T T' : TypeId} {n m : Nat} (hu : Upd (Value.slice (some ⟨W2.heap.size, 0, none⟩) n m).ownBlock.toList ((W2.alloc (.cells d T')).alloc (.cells c T)).drew w5) : Blk w5 (W2.heap.size + 1) c T :=
  Blk.upd (Blk.drew (Blk.new' (W2.alloc _) _ _ (by simp))) hu (by simp [Value.ownBlock])
theorem rg_up {W2 w5 W' w6 : World} {a : Option Addr} {n c : Nat} {xs : List Value} {T sz : Nat} (h5 : Upd [] W2 w5) (h : Upd [] w5 W') (h6 : Upd (Value.slice a n c).ownBlock.toList W' w6) (ho : w5.ownsRow W2.heap.size T sz (.slice a n c) n xs) : Upd [] W2 w6 :=
  (h5.trans h).trans' h6 (fun i hi => .inr (own_ge ho i (by simpa using hi)).1)
theorem rg_leaf {w W2 w6 : World} {k1 k2 k3 k4 n : Nat} {b1 b2 b3 : Value} {x2 x3 x4 : Array Value} {T1 T2 T3 T4 : TypeId} {a6 : Option Addr} {c6 : Nat} {xs : List Value} {T : TypeId} (h1 : Blk W2 k1 #[b1, b2, b3] T1) (h2 : Blk W2 k2 x2 T2) (h3 : Blk W2 k3 x3 T3) (h4 : Blk W2 k4 x4 T4) (hu2 : Upd [] w W2) (hu : Upd [] W2 w6) (hk : w.heap.size ≤ k1) (hl : k1 < W2.heap.size) (ho : w6.ownsRow W2.heap.size T 4 (.slice a6 n c6) n xs) (n21 : ¬ k2 = k1 := by assumption) (n31 : ¬ k3 = k1 := by assumption) (n41 : ¬ k4 = k1 := by assumption) :
    Blk (w6.setCell ⟨k1, 0, none⟩ (.slice a6 n c6)) k1 #[.slice a6 n c6, b2, b3] T1 ∧ Blk (w6.setCell ⟨k1, 0, none⟩ (.slice a6 n c6)) k2 x2 T2 ∧ Blk (w6.setCell ⟨k1, 0, none⟩ (.slice a6 n c6)) k3 x3 T3 ∧ Blk (w6.setCell ⟨k1, 0, none⟩ (.slice a6 n c6)) k4 x4 T4 ∧
      (w6.setCell ⟨k1, 0, none⟩ (.slice a6 n c6)).ownsRow w.heap.size T 4 (.slice a6 n c6) n xs ∧ Upd [] w (w6.setCell ⟨k1, 0, none⟩ (.slice a6 n c6)) ∧ (Value.slice a6 n c6).ownBlock ≠ some k4 := by
  refine ⟨(h1.upd hu (by simp)).set 0 _, (h2.upd hu (by simp)).set_other (p := ⟨k1, 0, none⟩) n21 _, (h3.upd hu (by simp)).set_other (p := ⟨k1, 0, none⟩) n31 _, (h4.upd hu (by simp)).set_other (p := ⟨k1, 0, none⟩) n41 _, ?_, (hu2.trans hu).setCell (p := ⟨k1, 0, none⟩) (.inr hk) _, fun e => by have := (own_ge ho k4 e).1; have := h4.lt; omega⟩
  refine own_upd (L := [k1]) (own_mono ho hu2.size) ((Upd.refl _ _).setCell (p := ⟨k1, 0, none⟩) (by simp) _) (fun g hg hm => ?_)
  simp only [List.mem_cons, List.not_mem_nil, or_false] at hm
  have := (own_ge ho g hg).1
  omega
def rtok (last : Int) (e : RLk) : RLk := ({ e.1 with tok := last + 1 }, e.2)

set_option maxHeartbeats 8000000 in
theorem rgrant_any {B E C : Nat} {vh vw : Value} {lh lw : List RLk} (last : Int) (x : RLk) (w : World) (hh : RRow B w vh lh) (hw : RRow E w vw lw) (hx : StrRow C w x.2 x.1.path) (hl : lh.length ≤ 1024) (h0 : 0 ≤ last) (h1 : last < 18446744073709551615) :
    Calls Tryz.prog 46 #[.agg #[vh, vw, .int .u64 last], rval x] w fun r w' =>
      ∃ vh', r = .returned (.tuple #[.agg #[vh', vw, .int .u64 (last + 1)], rval (rtok last x)]) ∧ w'.ownsRow w.heap.size 67 4 vh' (lh ++ [rtok last x]).length (rCells (lh ++ [rtok last x])) ∧ Upd [] w w' := by
  have HH := hd hh
  have HP := hd hx
  obtain ⟨a1, c1, rfl, -⟩ := own_open hh.own
  obtain ⟨a2, c2, rfl, -⟩ := own_open hw.own
  obtain ⟨qa, qc, hxv, -⟩ := own_open hx
  obtain ⟨⟨xs, xp, xx, xt⟩, xv⟩ := x
  simp only at hxv
  subst hxv
  have HY := hd (show rtok last (⟨xs, xp, xx, xt⟩, .slice qa xp.length qc) = (⟨xs, xp, xx, last + 1⟩, .slice qa xp.length qc) from rfl)
  unfold rval
  rw [HY.out]
  simp only at HP ⊢
  obtain ⟨y, hy⟩ : ∃ y : RLk, y = (⟨xs, xp, xx, last + 1⟩, .slice qa xp.length qc) := ⟨_, rfl⟩
  rw [← hy]
  have HYC := hd (show (rcel y).toArray = #[.int .i64 xs, .slice qa xp.length qc, .bool xx, .int .u64 (last + 1)] by rw [hy]; rfl)
  have HY2 := hd (show y.2 = .slice qa xp.length qc by rw [hy])
  have HYP := hd (show StrRow C w y.2 y.1.path by rw [hy]; exact HP.out)
  have e0 := four_lk w #[.slice a1 lh.length c1, .slice a2 lw.length c2, .int .u64 last] #[.int .i64 xs, .slice qa xp.length qc, .bool xx, .int .u64 xt] #[.slice none 0 0, .slice none 0 0, .int .u64 0] #[.int .i64 0, .slice none 0 0, .bool false, .int .u64 0] 29 67 29 67
  have hwr : IntKind.u64.wrap (last + 1) = last + 1 := by rw [IntKind.wrap_u64]; omega
  have HYV := hd (show rval y = .agg #[.int .i64 xs, .slice qa xp.length qc, .bool xx, .int .u64 (last + 1)] by rw [hy]; rfl)
  clear hh hw hx hy HY
  generalize xp.length = pn at *
  go_enter Tryz.func46, Tryz.ntmps46
  go_upto_region 1 with fail
  obtain ⟨W, k1, k2, k3, k4, hk1, hk2, hk3, hk4, hW, hu, hb1, hb2, hb3, hb4⟩ := e0
  rw [hW, hk1, hk2, hk3, hk4]
  have n12 : ¬ (k1 = k2) := by omega
  have n21 : ¬ (k2 = k1) := by omega
  have n31 : ¬ (k3 = k1) := by omega
  have n32 : ¬ (k3 = k2) := by omega
  have n41 : ¬ (k4 = k1) := by omega
  have n42 : ¬ (k4 = k2) := by omega
  have n13 : ¬ (k1 = k3) := by omega
  have n14 : ¬ (k1 = k4) := by omega
  have n23 : ¬ (k2 = k3) := by omega
  have n24 : ¬ (k2 = k4) := by omega
  have n34 : ¬ (k3 = k4) := by omega
  have n43 : ¬ (k4 = k3) := by omega
  have HKS := hd (show w.heap.size ≤ k1 ∧ w.heap.size ≤ k2 ∧ w.heap.size ≤ k3 ∧ w.heap.size ≤ k4 from ⟨by omega, by omega, by omega, by omega⟩)
  have e3 : ∃ W2, (W.setCell ⟨k1, 2, none⟩ (.int .u64 (last + 1))).setCell ⟨k2, 3, none⟩ (.int .u64 (last + 1)) = W2 ∧ Upd [] w W2 ∧ Blk W2 k1 #[.slice a1 lh.length c1, .slice a2 lw.length c2, .int .u64 (last + 1)] 29 ∧ Blk W2 k2 #[.int .i64 xs, .slice qa pn qc, .bool xx, .int .u64 (last + 1)] 67 ∧ Blk W2 k3 #[.slice none 0 0, .slice none 0 0, .int .u64 0] 29 ∧ Blk W2 k4 #[.int .i64 0, .slice none 0 0, .bool false, .int .u64 0] 67 := by
    refine ⟨_, rfl, ?_, (hb1.set 2 _).set_other n12 _, (hb2.set_other n21 _).set 3 _, (hb3.set_other n31 _).set_other n32 _, (hb4.set_other n41 _).set_other n42 _⟩
    exact (hu.setCell (p := ⟨k1, 2, none⟩) (.inr (by simp only; omega)) _).setCell (p := ⟨k2, 3, none⟩) (.inr (by simp only; omega)) _
  have hc1 := hb1.cell
  have hz1 := hb1.frozen
  have hc2 := hb2.cell
  have hz2 := hb2.frozen
  clear hk1 hk2 hk3 hk4 hW hb3 hb4 hu
  go_upto_region 3 with fail
  obtain ⟨W2, hW2, hu2, hb12, hb22, hb32, hb42⟩ := e3
  rw [hW2]
  have HU2 := hd hu2
  have HB1 := hd hb12
  have HB2 := hd hb22
  have HB3 := hd hb32
  have HB4 := hd hb42
  have HW2 := hd (show w.heap.size ≤ W2.heap.size from hu2.size)
  clear hW2 hu2 hc1 hz1 hc2 hz2 hb1 hb2
  have hd1 := hb12.cell
  have hf1 := hb12.frozen
  have hl1 := hb12.lt
  have hd2 := hb22.cell
  have hl2 := hb22.lt
  clear hb12 hb22 hb32 hb42
  go_cut [19] (fun s19 wx => ∃ a' c', s19 = .slice a' (lh.length + 1) c' ∧ Blk wx k1 #[.slice a' (lh.length + 1) c', .slice a2 lw.length c2, .int .u64 (last + 1)] 29 ∧ Blk wx k2 #[.int .i64 xs, .slice qa pn qc, .bool xx, .int .u64 (last + 1)] 67 ∧ Blk wx k3 #[.slice none 0 0, .slice none 0 0, .int .u64 0] 29 ∧ Blk wx k4 #[.int .i64 0, .slice none 0 0, .bool false, .int .u64 0] 67 ∧
    wx.ownsRow w.heap.size 67 4 (.slice a' (lh.length + 1) c') (lh.length + 1) (rCells (lh ++ [y])) ∧ Upd [] w wx ∧ (Value.slice a' (lh.length + 1) c').ownBlock ≠ some k4)
  case first =>
    have HYP0 := hd (own_mono HYP.out (B' := 0) (Nat.zero_le _))
    go_region_law (first
      | (refine step_rkAppend rfl _ _ (by rfl) W2.heap.size B _ _ [] lh (by rfl) (by rfl) (empty_row (by repeat (first | with_reducible exact Blk.new' _ _ _ (by simp) | with_reducible refine Blk.alloc ?_ _ | with_reducible refine Blk.drew ?_)) (by simp)) ((HH.out.later HU2.out).later (by repeat (first | with_reducible exact Upd.refl _ _ | with_reducible refine Upd.alloc ?_ _ | with_reducible refine Upd.drew ?_))) (by simp) (by omega) (by simp <;> omega) ?_
         intro a5 c5 w5 hown5 hu5
         have hU5 : Upd [] W2 w5 := Upd.trans' (by repeat (first | with_reducible exact Upd.refl _ _ | with_reducible refine Upd.alloc ?_ _ | with_reducible refine Upd.drew ?_)) hu5 (by simp [Value.ownBlock])
         first
           | (have hqxA := hd (xrow_a hu5))
           | (have hqxA := hd (xrow_b hu5))
           | skip
         have hqc1 := (HB1.out.upd hU5 (by simp)).cell
         have hqc2 := (HB2.out.upd hU5 (by simp)).cell
         have hql1 := Nat.lt_of_lt_of_le hl1 hU5.size
         have hql2 := Nat.lt_of_lt_of_le hl2 hU5.size
         have QO := hd hown5
         have QU := hd hU5
         have QS := hd hU5.size
         clear hown5 hu5 hU5)
      | (refine step_rkAppend rfl _ _ (by rfl) W2.heap.size 0 _ _ ([] ++ lh) [y] (by rfl) (by rfl) (own_upd (L := []) QO.out (by repeat (first | with_reducible exact Upd.refl _ _ | with_reducible refine Upd.alloc ?_ _ | with_reducible refine Upd.drew ?_)) (by simp)) (rone_row (e := y) (C := 0) (by rw [HYC.out]; first | exact hqxA.out | (repeat (first | with_reducible exact Blk.new' _ _ _ (by simp) | with_reducible refine Blk.alloc ?_ _ | with_reducible refine Blk.drew ?_))) (Nat.zero_le _) (own_upd (L := []) (own_upd (L := []) HYP0.out (HU2.out.trans QU.out) (by simp)) (by repeat (first | with_reducible exact Upd.refl _ _ | with_reducible refine Upd.alloc ?_ _ | with_reducible refine Upd.drew ?_)) (by simp))) (by simp <;> omega) (by simp) (by have := QS.out; simp <;> omega) ?_
         intro a6 c6 w6 hown6 hu6
         have RU := hd (rg_up (W2 := W2) QU.out (by repeat (first | with_reducible exact Upd.refl _ _ | with_reducible refine Upd.alloc ?_ _ | with_reducible refine Upd.drew ?_)) hu6 QO.out)
         have hrc1 := (HB1.out.upd RU.out (by simp)).cell
         have hrf1 := (HB1.out.upd RU.out (by simp)).frozen
         have hrl1 := Nat.lt_of_lt_of_le hl1 RU.out.size
         have RO := hd hown6
         clear hown6 hu6)
      | fail "no arm")
    all_goals
      go_wp2_with fail
      go_meet
      case rel => exact ⟨a6, c6, by simp, rg_leaf HB1.out HB2.out HB3.out HB4.out HU2.out RU.out HKS.out.1 hl1 (by simpa using RO.out)⟩
  case rest =>
    obtain ⟨a7, c7, rfl, hb17, hb27, hb37, hb47, hown7, hu7, hn47⟩ := hcut
    have HN4 := hd hn47
    have R3 := hd hb37
    have R4 := hd hb47
    have RO := hd hown7
    have RU := hd hu7
    have r1 := hb17.cell
    have r2 := hb27.cell
    have r3 := hb37.cell
    have r4 := hb47.cell
    have z3 := hb37.frozen
    have z4 := hb47.frozen
    have l1 := hb17.lt
    have l2 := hb27.lt
    have l3 := hb37.lt
    have l4 := hb47.lt
    have HKS2 := hd HKS.out
    clear hb17 hb27 hb37 hb47 hown7 hu7 hn47 hd1 hf1 hl1 hd2 hl2
    go_upto_region 4 with fail
    go_region_with fail
    all_goals
      go_wp2_with fail
      have hks := HKS2.out
      have hown3 := (own_ge RO.out)
      refine bodyPost_ret (res_rg _ 4 5 rfl _ _ k3 k4 (.slice a7 (lh.length + 1) c7) (.slice a2 lw.length c2) (last + 1) y rfl rfl ?b3 ⟨_, _, _, rfl⟩ ⟨_, _, _, rfl⟩ ?b4 ⟨_, _, _, HY2.out⟩) rfl ?fin
      case b3 =>
        repeat (first | with_reducible refine Blk.drew ?_ | with_reducible refine Blk.off ?_ n34)
        with_reducible refine putB (c0 := .slice none 0 0) (c1 := .slice none 0 0) (c2 := .int .u64 0) ?_ _ _ _
        repeat (first | with_reducible refine Blk.drew ?_ | with_reducible refine Blk.off ?_ n34)
        exact R3.out
      case b4 =>
        rw [HYC.out]
        repeat (first | with_reducible refine Blk.drew ?_ | with_reducible refine Blk.off ?_ n43)
        with_reducible refine putR (c0 := .int .i64 0) (c1 := .slice none 0 0) (c2 := .bool false) (c3 := .int .u64 0) ?_ _ _ _ _
        repeat (first | with_reducible refine Blk.drew ?_ | with_reducible refine Blk.off ?_ n43)
        exact R4.out
      case fin =>
        rw [HYV.out]
        refine ⟨.slice a7 (lh.length + 1) c7, rfl, ?_, ?_⟩
        · rw [List.length_append]
          refine own_upd (L := [k3, k4]) RO.out (by repeat (first | with_reducible exact Upd.refl _ _ | with_reducible refine Upd.drew ?_ | with_reducible refine Upd.setCell ?_ (.inl (by simp)) _)) (fun g hg hm => ?_)
          simp only [List.mem_cons, List.not_mem_nil, or_false] at hm
          rcases hm with rfl | rfl
          · exact own_ne_any RO.out R3.out (by decide) g hg rfl
          · exact HN4.out hg
        · repeat (first | with_reducible exact RU.out | with_reducible refine Upd.drew ?_ | with_reducible refine Upd.setCell ?_ (.inr (by simp only; omega)) _)
end Go.Proofs.YtpniggmdokkkcaaGreatDoor
