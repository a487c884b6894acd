/-
  The document's locks in memory; Same, Conflict, may, Find of the document, walked. Conditions: good paths.
-/
import Derived.Test.YtpniggmdokkkcaaGreatDoorMb11
import Derived.Test.YtpniggmdokkkcaaGreatDoorMb12
set_option linter.unusedVariables false
set_option linter.unusedSimpArgs false
set_option maxRecDepth 100000
namespace Go.Proofs.YtpniggmdokkkcaaGreatDoor
open Go.RowKit

/-- A lock of the document: its data, and its path's slice. -/
abbrev RLk := LkS × Value
def rval (e : RLk) : Value := .agg #[.int .i64 e.1.ses, e.2, .bool e.1.excl, .int .u64 e.1.tok]
def rcel (e : RLk) : List Value := [.int .i64 e.1.ses, e.2, .bool e.1.excl, .int .u64 e.1.tok]
def rCells (l : List RLk) : List Value := l.flatMap rcel
theorem rCells_length (l : List RLk) : (rCells l).length = l.length * 4 := by
  induction l with
  | nil => rfl
  | cons a t ih => simp only [rCells, List.flatMap_cons, List.length_append, rcel, List.length_cons, List.length_nil] at *; omega
theorem rCells_get (l : List RLk) (i : Nat) (hi : i < l.length) (j : Nat) (hj : j < 4) : (rCells l)[i * 4 + j]? = (rcel l[i])[j]? := by
  induction l generalizing i with
  | nil => simp at hi
  | cons a t ih =>
    have e : rCells (a :: t) = rcel a ++ rCells t := rfl
    rw [e]
    cases i with
    | zero =>
      rw [List.getElem?_append_left (by simp [rcel]; omega)]
      simp
    | succ i =>
      rw [List.getElem?_append_right (by simp [rcel]; omega)]
      have := ih i (by simpa using hi)
      rw [show (i + 1) * 4 + j - (rcel a).length = i * 4 + j by simp [rcel]; omega]
      rw [this]
      simp
/-- A list of the document's locks in a row of its own; their paths in rows of their own. -/
structure RRow (B : Nat) (w : World) (v : Value) (l : List RLk) : Prop where
  own : w.ownsRow B 67 4 v l.length (rCells l)
  path : ∀ e ∈ l, StrRow B w e.2 e.1.path
theorem RRow.later {B : Nat} {w w' : World} {v : Value} {l : List RLk} (h : RRow B w v l) (hu : Upd [] w w') : RRow B w' v l :=
  ⟨own_upd (L := []) h.own hu (by simp), fun e he => own_upd (L := []) (h.path e he) hu (by simp)⟩
theorem RRow.mono {B C : Nat} {w : World} {v : Value} {l : List RLk} (h : RRow B w v l) (hB : C ≤ B) : RRow C w v l :=
  ⟨own_mono h.own hB, fun e he => own_mono (h.path e he) hB⟩
/-- Where only blocks of other kinds turn. -/
theorem RRow.kept {B : Nat} {L : List Nat} {w w' : World} {v : Value} {l : List RLk} (h : RRow B w v l) (hu : Upd L w w') (hL : ∀ i ∈ L, ∃ c T, Blk w i c T ∧ 67 ≠ T ∧ 9 ≠ T) : RRow B w' v l :=
  ⟨own_upd h.own hu (fun g hg hm => by obtain ⟨c, T, hb, h1, -⟩ := hL g hm; exact own_ne_any h.own hb h1 g hg rfl),
    fun e he => own_upd (h.path e he) hu (fun g hg hm => by obtain ⟨c, T, hb, -, h2⟩ := hL g hm; exact own_ne_any (h.path e he) hb h2 g hg rfl)⟩
theorem rnil (B : Nat) (w : World) : RRow B w (.slice none 0 0) [] := ⟨World.ownsRow_nil _ _ _ _, by simp⟩
/-- One of them, read in a later world. -/
theorem rk_get {B : Nat} {w W : World} {a : Option Addr} {n c : Nat} {l : List RLk} (h : RRow B w (.slice a n c) l) (hn : l.length = n) (hu : Upd [] w W) (t : Nat) (ht : t < l.length) :
    ∃ k a' c', a = some ⟨k, 0, none⟩ ∧ k < W.heap.size ∧ l[t].2 = .slice a' l[t].1.path.length c' ∧ W.cell? ⟨k, t * 4, none⟩ = some (.int .i64 l[t].1.ses) ∧ W.cell? ⟨k, t * 4 + 1, none⟩ = some (.slice a' l[t].1.path.length c') ∧ W.cell? ⟨k, t * 4 + 2, none⟩ = some (.bool l[t].1.excl) ∧ W.cell? ⟨k, t * 4 + 3, none⟩ = some (.int .u64 l[t].1.tok) := by
  have h2 := h.later hu
  obtain ⟨a', c', hpv, -⟩ := own_open (h2.path l[t] (List.getElem_mem _))
  obtain ⟨aa, cap, e, -, -, hc⟩ := own_open h2.own
  simp only [Value.slice.injEq] at e
  obtain ⟨rfl, -, rfl⟩ := e
  obtain ⟨g, rfl, -, hg, hcell, -⟩ := hc (by omega)
  have hq : ∀ j, j < 4 → W.cell? ⟨g, t * 4 + j, none⟩ = (rcel l[t])[j]? := fun j hj => by rw [hcell _ (by omega)]; exact rCells_get l t ht j hj
  refine ⟨g, a', c', rfl, hg, hpv, hq 0 (by omega), ?_, hq 2 (by omega), hq 3 (by omega)⟩
  rw [hq 1 (by omega), ← hpv]
  rfl

theorem same_of {x y : LkS} (hx : Six x.path) (hy : Six y.path) : sameB x y = (decide (x.ses = y.ses) && decide (x.path = y.path)) := by
  unfold sameB
  congr 1
  rw [Bool.eq_iff_iff, decide_eq_true_iff, decide_eq_true_iff]
  exact ⟨fun h => text_inj hx.clean hy.clean h, fun h => by rw [h]⟩
theorem conf_of {x y : LkS} (hx : Six x.path) (hy : Six y.path) : conflB x y = (decide (x.ses ≠ y.ses) && ((x.excl || y.excl) && (x.path.isPrefixOf y.path || y.path.isPrefixOf x.path))) := by
  unfold conflB
  rw [overT_parts hx.clean hy.clean, overT_parts hy.clean hx.clean]

set_option maxHeartbeats 2000000 in
theorem rsame_any {B : Nat} (e : RLk) (s : Int) (p : List (List UInt8)) (v : Value) (w : World) (he : StrRow B w e.2 e.1.path) (hp : TxsAt w v p) (h6 : Six e.1.path) (hp6 : Six p) :
    Calls Tryz.prog 70 #[rval e, .int .i64 s, v] w fun r w' => r = .returned (.bool (sameB ⟨s, p, false, 0⟩ e.1)) ∧ Upd [] w w' := by
  rw [same_of (x := ⟨s, p, false, 0⟩) hp6 h6]
  obtain ⟨⟨es, ep, ex, et⟩, pv⟩ := e
  simp only at he h6 ⊢
  have HC := hd (fun W (hu : Upd [] w W) => rcompare_any ep p pv v W ((row_strs he).upd hu) (hp.upd hu))
  obtain ⟨a1, c1, rfl, -⟩ := own_open he
  obtain ⟨a2, c2, rfl, -⟩ := hp
  have e0 := one_lk w #[.int .i64 es, .slice a1 ep.length c1, .bool ex, .int .u64 et] 67
  have HZ := hd (show (cmpL ep p == 0) = decide (p = ep) by
    rw [Bool.eq_iff_iff, beq_iff_eq, decide_eq_true_iff]
    exact ⟨fun h => (cmpL_eq h).symm, fun h => by rw [h, cmpL_same]⟩)
  unfold rval
  simp only
  generalize cmpL ep p = q at *
  clear he hp6 h6
  go_enter Tryz.func70, Tryz.ntmps70
  go_upto_region 1 with fail
  obtain ⟨W, k, hk, hW, hu, hb⟩ := e0
  rw [hW, hk]
  have HU := hd hu
  have hc := hb.cell
  clear hW hk hu hb
  by_cases hs : es = s
  · have hs' : (es == s) = true := by simpa using hs
    have HS := hd hs
    clear hs
    go_wp2_with fail
    refine (HC.out _ HU.out).mono ?_
    rintro r w1 ⟨rfl, hu1⟩
    go_wp2_with fail
    go_ret
    first
    | exact ⟨by rw [HZ.out, decide_eq_true HS.out.symm]; rfl, HU.out.trans hu1⟩
    | exact ⟨by rw [HZ.out, decide_eq_true HS.out.symm]; rfl, hu1 ▸ HU.out⟩
  · have hs' : (es == s) = false := by simpa using hs
    have HS := hd hs
    clear hs
    go_wp2_with fail
    go_ret
    exact ⟨by rw [decide_eq_false (fun e => HS.out e.symm)]; rfl, HU.out⟩

set_option maxHeartbeats 2000000 in
theorem rconf_any {B C : Nat} (x y : RLk) (w : World) (hx : StrRow B w x.2 x.1.path) (hy : StrRow C w y.2 y.1.path) (hx6 : Six x.1.path) (hy6 : Six y.1.path) :
    Calls Tryz.prog 71 #[rval x, rval y] w fun r w' => r = .returned (.bool (conflB x.1 y.1)) ∧ Upd [] w w' := by
  rw [conf_of hx6 hy6]
  obtain ⟨⟨s1, p1, x1, t1⟩, v1⟩ := x
  obtain ⟨⟨s2, p2, x2, t2⟩, v2⟩ := y
  simp only at hx hy ⊢
  have HO1 := hd (fun W (hu : Upd [] w W) => rover_any p1 p2 v1 v2 W ((row_strs hx).upd hu) ((row_strs hy).upd hu))
  have HO2 := hd (fun W (hu : Upd [] w W) => rover_any p2 p1 v2 v1 W ((row_strs hy).upd hu) ((row_strs hx).upd hu))
  obtain ⟨a1, c1, rfl, -⟩ := own_open hx
  obtain ⟨a2, c2, rfl, -⟩ := own_open hy
  have e0 := two_lk w #[.int .i64 s1, .slice a1 p1.length c1, .bool x1, .int .u64 t1] #[.int .i64 s2, .slice a2 p2.length c2, .bool x2, .int .u64 t2] 67
  unfold rval
  simp only
  generalize p1.isPrefixOf p2 = q1 at *
  generalize p2.isPrefixOf p1 = q2 at *
  clear hx hy hx6 hy6
  go_enter Tryz.func71, Tryz.ntmps71
  go_upto_region 1 with fail
  obtain ⟨W, k, j, hk, hj, hW, hu, hb, hb'⟩ := e0
  rw [hW, hk, hj]
  have HU := hd hu
  have HB1 := hd hb
  have HB2 := hd hb'
  have hc := hb.cell
  have hc' := hb'.cell
  clear hW hk hj hu hb hb'
  by_cases hs : s1 = s2
  · subst hs
    go_wp2_with fail
    go_ret
    exact ⟨by simp, HU.out⟩
  · have hs' : (s1 != s2) = true := by simpa using hs
    have HS := hd hs
    clear hs
    cases hxx : (x1 || x2) with
    | false =>
      rw [Bool.or_eq_false_iff] at hxx
      obtain ⟨rfl, rfl⟩ := hxx
      go_wp2_with fail
      go_ret
      exact ⟨by simp, HU.out⟩
    | true =>
      have HXX := hd hxx
      cases q1 with
      | true =>
        cases x1 with
        | true =>
          go_wp2_with fail
          refine (HO1.out _ HU.out).mono ?_
          rintro r w1 ⟨rfl, hu1⟩
          go_wp2_with fail
          go_ret
          first
          | exact ⟨by simp [HS.out], HU.out.trans hu1⟩
          | exact ⟨by simp [HS.out], hu1 ▸ HU.out⟩
        | false =>
          have hx2 : x2 = true := by simpa using hxx
          subst hx2
          clear hxx
          go_wp2_with fail
          refine (HO1.out _ HU.out).mono ?_
          rintro r w1 ⟨rfl, hu1⟩
          go_wp2_with fail
          go_ret
          first
          | exact ⟨by simp [HS.out], HU.out.trans hu1⟩
          | exact ⟨by simp [HS.out], hu1 ▸ HU.out⟩
      | false =>
        cases x1 with
        | true =>
          go_wp2_with fail
          refine (HO1.out _ HU.out).mono ?_
          rintro r w1 ⟨rfl, hu1⟩
          have HU1 := hd (HU.out.trans hu1)
          have hc1 := (HB1.out.upd hu1 (by simp)).cell
          have hc2 := (HB2.out.upd hu1 (by simp)).cell
          clear hc hc'
          go_wp2_with fail
          refine (HO2.out _ HU1.out).mono ?_
          rintro r w2 ⟨rfl, hu2⟩
          go_wp2_with fail
          go_ret
          exact ⟨by simp [HS.out], HU1.out.trans hu2⟩
        | false =>
          have hx2 : x2 = true := by simpa using hxx
          subst hx2
          clear hxx
          go_wp2_with fail
          refine (HO1.out _ HU.out).mono ?_
          rintro r w1 ⟨rfl, hu1⟩
          have HU1 := hd (HU.out.trans hu1)
          have hc1 := (HB1.out.upd hu1 (by simp)).cell
          have hc2 := (HB2.out.upd hu1 (by simp)).cell
          clear hc hc'
          go_wp2_with fail
          refine (HO2.out _ HU1.out).mono ?_
          rintro r w2 ⟨rfl, hu2⟩
          go_wp2_with fail
          go_ret
          exact ⟨by simp [HS.out], HU1.out.trans hu2⟩
end Go.Proofs.YtpniggmdokkkcaaGreatDoor

/-
  may, Find, without of the document's book, walked. Conditions: good paths.
-/
set_option linter.unusedVariables false
set_option linter.unusedSimpArgs false
set_option maxRecDepth 100000
namespace Go.Proofs.YtpniggmdokkkcaaGreatDoor
open Go.RowKit

/-- A book of the document, as a value. -/
structure RBk (B : Nat) (w : World) (v : Value) (lh lw : List RLk) (last : Int) (vh vw : Value) : Prop where
  val : v = .agg #[vh, vw, .int .u64 last]
  held : RRow B w vh lh
  waits : RRow B w vw lw
theorem any_take {l : List RLk} {p : RLk → Bool} {t : Nat} (ht : t < l.length) (h : ∀ e ∈ l.take t, p e = false) (hx : p l[t] = false) : ∀ e ∈ l.take (t + 1), p e = false := by
  intro e he
  rw [List.take_succ_eq_append_getElem ht] at he
  rcases List.mem_append.1 he with h1 | h1
  · exact h e h1
  · rw [List.mem_singleton.1 h1]; exact hx
theorem any_hit {l : List RLk} {p : RLk → Bool} {t : Nat} (ht : t < l.length) (hx : p l[t] = true) : l.any p = true := List.any_eq_true.2 ⟨_, List.getElem_mem ht, hx⟩
theorem any_miss {l : List RLk} {p : RLk → Bool} (h : ∀ e ∈ l.take l.length, p e = false) : l.any p = false := by
  rw [List.take_length] at h
  exact List.any_eq_false.2 (fun e he => by rw [h e he]; decide)

set_option maxHeartbeats 4000000 in
theorem rmay_any {B C D E : Nat} {vh vw ve : Value} {lh lw le : List RLk} (last : Int) (x : RLk) (w : World) (hh : RRow B w vh lh) (hw : RRow E w vw lw) (he : RRow C w ve le) (hx : StrRow D w x.2 x.1.path)
    (h61 : ∀ e ∈ lh, Six e.1.path) (h62 : ∀ e ∈ le, Six e.1.path) (hx6 : Six x.1.path) :
    Calls Tryz.prog 45 #[.agg #[vh, vw, .int .u64 last], rval x, ve] w fun r w' => r = .returned (.bool (!(lh.any fun e => conflB x.1 e.1) && !(le.any fun e => conflB x.1 e.1))) ∧ Upd [] w w' := by
  obtain ⟨xa, xc, hxv, -⟩ := own_open hx
  have HCF1 := hd (fun e (he' : e ∈ lh) W (hu : Upd [] w W) => rconf_any (B := D) (C := B) x e W (own_upd (L := []) hx hu (by simp)) (own_upd (L := []) (hh.path e he') hu (by simp)) hx6 (h61 e he'))
  have HCF2 := hd (fun e (he' : e ∈ le) W (hu : Upd [] w W) => rconf_any (B := D) (C := C) x e W (own_upd (L := []) hx hu (by simp)) (own_upd (L := []) (he.path e he') hu (by simp)) hx6 (h62 e he'))
  have HXV := hd (show rval x = .agg #[.int .i64 x.1.ses, .slice xa x.1.path.length xc, .bool x.1.excl, .int .u64 x.1.tok] by unfold rval; rw [hxv])
  have HRV := hd (fun e a c (h : e.2 = .slice a e.1.path.length c) => show rval e = .agg #[.int .i64 e.1.ses, .slice a e.1.path.length c, .bool e.1.excl, .int .u64 e.1.tok] by unfold rval; rw [h])
  rw [HXV.out] at HCF1 HCF2 ⊢
  have HH := hd hh
  have HE := hd he
  obtain ⟨a1, c1, rfl, hn1, hm1, -⟩ := own_open hh.own
  obtain ⟨a2, c2, rfl, hn2, hm2, -⟩ := own_open he.own
  obtain ⟨a3, c3, rfl, -⟩ := own_open hw.own
  have hl1 : lh.length ≤ 9223372036854775807 := by unfold maxLen at hm1; omega
  have hl2 : le.length ≤ 9223372036854775807 := by unfold maxLen at hm2; omega
  have e0 := two_lk2 w #[.slice a1 lh.length c1, .slice a3 lw.length c3, .int .u64 last] #[.int .i64 x.1.ses, .slice xa x.1.path.length xc, .bool x.1.excl, .int .u64 x.1.tok] 29 67
  clear hh he hx h61 h62 hx6 hm1 hm2 hxv hw hn1 hn2
  obtain ⟨R, hR⟩ : ∃ R, (!(lh.any fun e => conflB x.1 e.1) && !(le.any fun e => conflB x.1 e.1)) = R := ⟨_, rfl⟩
  rw [hR]
  have HR := hd hR
  clear hR
  generalize x.1.path.length = xn at *
  go_enter Tryz.func45, Tryz.ntmps45
  go_upto_region 1 with fail
  obtain ⟨W, kb, kx, hkb, hkx, hW, hu, hb, hbx⟩ := e0
  rw [hW, hkb, hkx]
  have HU := hd hu
  have HBX := hd hbx
  have hc := hb.cell
  clear hW hkb hkx hu hb hbx
  go_wp2_with fail
  go_loopw [14] (fun s wr => ∃ t : Nat, s = .int .i64 t ∧ t ≤ lh.length ∧ (∀ e ∈ lh.take t, conflB x.1 e.1 = false) ∧ Upd [] W wr) (fun s _ => lh.length - (intOf s).toNat)
  case atStart => exact ⟨0, rfl, by omega, by simp, Upd.refl _ _⟩
  case round =>
    obtain ⟨t, rfl, ht, hall, hu⟩ := hrel
    have HU1 := hd (HU.out.trans hu)
    have HUW := hd hu
    have HALL := hd hall
    clear hu hall hc
    by_cases htn : t < lh.length
    · have htn' : (t : Int) < (lh.length : Int) := by omega
      obtain ⟨g, pa, pc, rfl, hgl, hpv, d0, d1, d2, d3⟩ := rk_get HH.out rfl HU1.out t htn
      have HCF := hd (HCF1.out lh[t] (List.getElem_mem _))
      have HIT := hd (any_hit (p := fun e => conflB x.1 e.1) htn)
      have HNX := hd (any_take (p := fun e => conflB x.1 e.1) htn HALL.out)
      have HV := hd (HRV.out lh[t] pa pc hpv)
      rw [HV.out] at HCF
      have e1 := one_lk wr #[.int .i64 lh[t].1.ses, .slice pa lh[t].1.path.length pc, .bool lh[t].1.excl, .int .u64 lh[t].1.tok] 67
      try simp only at HIT HNX
      clear HV hpv
      generalize lh[t] = y at *
      generalize y.1.path.length = yn at *
      have hcx := (HBX.out.upd HUW.out (by simp)).cell
      go_upto_region 4 with fail
      obtain ⟨W3, k3, hk3, hW3, hu3, hb3⟩ := e1
      rw [hW3, hk3]
      have HU3 := hd (HU1.out.trans hu3)
      have HW3 := hd (HUW.out.trans hu3)
      have hc3 := hb3.cell
      have hcx3 := (HBX.out.upd HW3.out (by simp)).cell
      have HC3 := hd (HCF.out W3 HU3.out)
      clear hk3 hW3 hu3 hb3 d0 d1 d2 d3 hcx
      rcases hq : conflB x.1 y.1 with _ | _
      · rw [hq] at HC3
        have HX := hd (HNX.out hq)
        clear hq HIT HNX
        go_wp2_with fail
        refine HC3.out.mono ?_
        rintro r w4 ⟨rfl, hu4⟩
        go_wp2_with fail
        go_roundw
        case rel => exact ⟨t + 1, by go_num, by omega, HX.out, HW3.out.trans hu4⟩
        case measure => simp [intOf]; omega
      · rw [hq] at HC3
        have HX := hd (show R = false by rw [← HR.out, HIT.out hq]; rfl)
        clear hq HIT HNX
        go_wp2_with fail
        refine HC3.out.mono ?_
        rintro r w4 ⟨rfl, hu4⟩
        go_wp2_with fail
        go_ret
        exact ⟨by rw [HX.out]; rfl, HU3.out.trans hu4⟩
    · obtain rfl : t = lh.length := by omega
      have HMS := hd (any_miss (p := fun e => conflB x.1 e.1) HALL.out)
      try simp only at HMS
      clear HALL
      generalize wr = W1 at *
      go_wp2_with fail
      go_loopw [24] (fun s wr => ∃ t : Nat, s = .int .i64 t ∧ t ≤ le.length ∧ (∀ e ∈ le.take t, conflB x.1 e.1 = false) ∧ Upd [] W1 wr) (fun s _ => le.length - (intOf s).toNat)
      case atStart => exact ⟨0, rfl, by omega, by simp, Upd.refl _ _⟩
      case round =>
        obtain ⟨t, rfl, ht, hall, hu⟩ := hrel
        have HU2 := hd (HU1.out.trans hu)
        have HUW2 := hd (HUW.out.trans hu)
        have HUV := hd hu
        have HALL := hd hall
        clear hu hall
        by_cases htn : t < le.length
        · have htn' : (t : Int) < (le.length : Int) := by omega
          obtain ⟨g, pa, pc, rfl, hgl, hpv, d0, d1, d2, d3⟩ := rk_get HE.out rfl HU2.out t htn
          have HCF := hd (HCF2.out le[t] (List.getElem_mem _))
          have HIT := hd (any_hit (p := fun e => conflB x.1 e.1) htn)
          have HNX := hd (any_take (p := fun e => conflB x.1 e.1) htn HALL.out)
          have HV := hd (HRV.out le[t] pa pc hpv)
          rw [HV.out] at HCF
          have e1 := one_lk wr #[.int .i64 le[t].1.ses, .slice pa le[t].1.path.length pc, .bool le[t].1.excl, .int .u64 le[t].1.tok] 67
          try simp only at HIT HNX
          clear HV hpv
          generalize le[t] = y at *
          generalize y.1.path.length = yn at *
          have hcx := (HBX.out.upd HUW2.out (by simp)).cell
          go_upto_region 10 with fail
          obtain ⟨W3, k3, hk3, hW3, hu3, hb3⟩ := e1
          rw [hW3, hk3]
          have HU3 := hd (HU2.out.trans hu3)
          have HW3 := hd (HUW2.out.trans hu3)
          have HV3 := hd (HUV.out.trans hu3)
          have hc3 := hb3.cell
          have hcx3 := (HBX.out.upd HW3.out (by simp)).cell
          have HC3 := hd (HCF.out W3 HU3.out)
          clear hk3 hW3 hu3 hb3 d0 d1 d2 d3 hcx
          rcases hq : conflB x.1 y.1 with _ | _
          · rw [hq] at HC3
            have HX := hd (HNX.out hq)
            clear hq HIT HNX
            go_wp2_with fail
            refine HC3.out.mono ?_
            rintro r w4 ⟨rfl, hu4⟩
            go_wp2_with fail
            go_roundw
            case rel => exact ⟨t + 1, by go_num, by omega, HX.out, HV3.out.trans hu4⟩
            case measure => simp [intOf]; omega
          · rw [hq] at HC3
            have HX := hd (show R = false by rw [← HR.out, HIT.out hq]; simp)
            clear hq HIT HNX
            go_wp2_with fail
            refine HC3.out.mono ?_
            rintro r w4 ⟨rfl, hu4⟩
            go_wp2_with fail
            go_ret
            exact ⟨by rw [HX.out]; rfl, HU3.out.trans hu4⟩
        · obtain rfl : t = le.length := by omega
          have HMS2 := hd (any_miss (p := fun e => conflB x.1 e.1) HALL.out)
          try simp only at HMS2
          have HX := hd (show R = true by rw [← HR.out, HMS.out, HMS2.out]; rfl)
          clear HALL
          go_wp2_with fail
          go_ret
          exact ⟨by rw [HX.out]; rfl, HU2.out⟩
/-! ### Find -/
theorem load_rk (W : World) (k : Nat) (e : RLk) (h : Blk W k (rcel e).toArray 67) (hs : ∃ a n c, e.2 = .slice a n c) : (loadVar 67 ⟨k, 0, none⟩).run Tryz.prog W = .ok (rval e) W := by
  obtain ⟨⟨s, p, x, t⟩, v⟩ := e
  obtain ⟨a, n, c, rfl⟩ := hs
  have hc := h.cell
  simp only [rcel] at hc
  have c0 := hc 0
  have c1 := hc 1
  have c2 := hc 2
  have c3 := hc 3
  simp at c0 c1 c2 c3
  unfold rval
  clear hc h
  go_simp
theorem load_rb (W : World) (k : Nat) (vh vw : Value) (last : Int) (h : Blk W k #[vh, vw, .int .u64 last] 29) (h1 : ∃ a n c, vh = .slice a n c) (h2 : ∃ a n c, vw = .slice a n c) : (loadVar 29 ⟨k, 0, none⟩).run Tryz.prog W = .ok (.agg #[vh, vw, .int .u64 last]) W := by
  obtain ⟨a, n, c, rfl⟩ := h1
  obtain ⟨a', n', c', rfl⟩ := h2
  have hc := h.cell
  have c0 := hc 0
  have c1 := hc 1
  have c2 := hc 2
  simp at c0 c1 c2
  clear hc h
  go_simp
theorem res_rk2 (fn : Func) (s t : Nat) (hr : fn.results = #[.cell s 67, .tmp t]) (tmps : Array Value) (W : World) (k : Nat) (e : RLk) (v : Value) (ht : tmps[s]? = some (.pointer (some ⟨k, 0, none⟩))) (hv : tmps[t]? = some v) (h : Blk W k (rcel e).toArray 67) (hs : ∃ a n c, e.2 = .slice a n c) :
    (results fn tmps).run Tryz.prog W = .ok (.tuple #[rval e, v]) W := by
  simp [results, hr, ht, hv, asAddr, load_rk W k e h hs]
theorem putR {W : World} {k : Nat} {T : TypeId} {c0 c1 c2 c3 : Value} (h : Blk W k #[c0, c1, c2, c3] T) (a b c d : Value) :
    Blk ((((W.setCell ⟨k, 0, none⟩ a).setCell ⟨k, 1, none⟩ b).setCell ⟨k, 2, none⟩ c).setCell ⟨k, 3, none⟩ d) k #[a, b, c, d] T :=
  (((h.set 0 _).set 1 _).set 2 _).set 3 _
theorem putB {W : World} {k : Nat} {T : TypeId} {c0 c1 c2 : Value} (h : Blk W k #[c0, c1, c2] T) (a b c : Value) :
    Blk (((W.setCell ⟨k, 0, none⟩ a).setCell ⟨k, 1, none⟩ b).setCell ⟨k, 2, none⟩ c) k #[a, b, c] T :=
  ((h.set 0 _).set 1 _).set 2 _
theorem row_shape {w : World} {B T sz n : Nat} {v : Value} {xs : List Value} (h : w.ownsRow B T sz v n xs) : ∃ a n c, v = .slice a n c := by
  obtain ⟨a, c, rfl, -⟩ := own_open h
  exact ⟨_, _, _, rfl⟩
end Go.Proofs.YtpniggmdokkkcaaGreatDoor

/-
  Find, without of the document's book, walked; a list of the document's locks appended. Conditions: good paths.
-/
set_option linter.unusedVariables false
set_option linter.unusedSimpArgs false
set_option maxRecDepth 100000
namespace Go.Proofs.YtpniggmdokkkcaaGreatDoor
open Go.RowKit

theorem Tryz.infoRk : (Tryz.prog.info? 67).map (fun i => (i.zero, i.size, i.bytes)) = some (some (.agg #[.int .i64 0, .slice none 0 0, .bool false, .int .u64 0]), 4, 48) := by kernel_rfl
theorem rone_cells {B : Nat} {w : World} {v : Value} {l : List RLk} (h : RRow B w v l) : ∀ u ∈ rCells l, u.oneCell' = true := by
  intro u hu
  simp only [rCells, List.mem_flatMap, rcel] at hu
  obtain ⟨e, he, hu⟩ := hu
  simp at hu
  rcases hu with rfl | rfl | rfl | rfl
  · rfl
  · obtain ⟨a, c, e2, -⟩ := own_open (h.path e he)
    rw [e2]; rfl
  · rfl
  · rfl
theorem rks_cell {B : Nat} {w : World} {g n c : Nat} {l : List RLk} (h : RRow B w (.slice (some ⟨g, 0, none⟩) n c) l) : ∀ j z, (rCells l)[j]? = some z → w.cell? ((⟨g, 0, none⟩ : Addr).add j) = some z := by
  intro j z hj
  have hjl : j < l.length * 4 := by rw [← rCells_length]; exact (List.getElem?_eq_some_iff.1 hj).1
  obtain ⟨a, cap, e, -, -, hc⟩ := own_open h.own
  simp only [Value.slice.injEq] at e
  obtain ⟨e1, -, -⟩ := e
  obtain ⟨g', e2, -, -, hcell, -⟩ := hc (by omega)
  rw [e2] at e1
  simp only [Option.some.injEq, Addr.mk.injEq, and_true] at e1
  subst e1
  rw [Addr.add_lit, Nat.zero_add, hcell j hjl, hj]
theorem rapp (l m : List RLk) : rCells (l ++ m) = rCells l ++ rCells m := List.flatMap_append
/-- One list of the document's locks appended to another. -/
theorem rkAppend {ops : Array Oper} {rest : List Oper} {o : Oper} {a : Act} {w : World} {Q : Exit → Act → World → Prop} (hgd : o.guard = none) (s x : Operand)
    (ho : o.op = .call { callee := .builtin .append, args := #[s, x], argTypes := #[27, 27] })
    (B C : Nat) (v u : Value) (l m : List RLk) (hs : a.eval s = v) (hown : w.ownsRow B 67 4 v l.length (rCells l)) (hx : a.eval x = u) (hu : RRow C w u m)
    (hl : l.length ≤ 100000) (hm : m.length ≤ 100000) (hB : B ≤ w.heap.size)
    (h : ∀ v' w', w'.ownsRow B 67 4 v' (l ++ m).length (rCells (l ++ m)) → Upd v.ownBlock.toList w w' → (v'.ownBlock = v.ownBlock ∨ v'.ownBlock = some w.heap.size) → wpList Tryz.prog ops Q rest (a.put o.dst v') w') : wpList Tryz.prog ops Q (o :: rest) a w := by
  obtain ⟨i0, hinf, hz0, hz1, hz2⟩ := info_parts Tryz.infoRk
  obtain ⟨au, cu, rfl, hnc, hcm, hau⟩ := own_open2 hu.own
  rcases hau with ⟨rfl, rfl⟩ | ⟨g, rfl⟩
  · have hm0 : m = [] := List.eq_nil_of_length_eq_zero (by omega)
    subst hm0
    refine wpList_append_own_none hgd s x 27 ho B 67 i0 4 Tryz.underlying27 hinf v l.length (rCells l) hs hown (by rw [hx]; rfl) ?_
    exact h v w (by rw [List.append_nil]; exact hown) (Upd.refl _ _) (.inl rfl)
  · refine wpList_append_own_at w hgd s x 27 ho B 67 i0 _ 4 48 Tryz.underlying27 hinf hz0 hz1 hz2 rfl (by decide) v l.length (rCells l) hs hown ⟨g, 0, none⟩ m.length cu (rCells m) hx (rCells_length m) (rks_cell hu) (rone_cells hu) (by unfold maxLen; omega) (by omega) hB ?_
    intro v' w' hown' hgr _ hat
    refine h v' w' ?_ (Upd.of_grown hgr) hat
    rw [List.length_append, rapp]
    exact hown'
theorem wp_append_own_none' {w : World} {o : Oper} {a : Act} {K : Act → World → Prop} {Q : Exit → Act → World → Prop} (s x : Operand) (t : TypeId)
    (ho : o.op = .call { callee := .builtin .append, args := #[s, x], argTypes := #[t, t] })
    (base : Nat) (e : TypeId) (i : TypeInfo) (size : Nat) (ht : Tryz.prog.underlying t = some (.slice e)) (hi : Tryz.prog.info? e = some i)
    (v : Value) (n : Nat) (xs : List Value) (hs : a.eval s = v) (hown : w.ownsRow base e size v n xs) (hx : a.eval x = .slice none 0 0)
    (h : K (a.put o.dst v) w) : o.wp Tryz.prog a w K Q := by
  have hrun := run_append_owned_none (P := Tryz.prog) (w := w) base t o.type e i size ht hi v n xs hown
  unfold Oper.wp
  simp [execOp, ho, resolve, invoke, builtin, hs, hx, hrun, Result.andThen]
  exact h
/-- .. and as one step of a region that draws. -/
theorem step_rkAppend {ops : Array Oper} {o : Oper} {a : Act} {w : World} {K : Act → World → Prop} {Q : Exit → Act → World → Prop} {E : Prop} (hgd : o.guard = none) (s x : Operand)
    (ho : o.op = .call { callee := .builtin .append, args := #[s, x], argTypes := #[27, 27] })
    (B C : Nat) (v u : Value) (l m : List RLk) (hs : a.eval s = v) (hx : a.eval x = u) (hown : w.ownsRow B 67 4 v l.length (rCells l)) (hu : RRow C w u m)
    (hl : l.length ≤ 100000) (hm : m.length ≤ 100000) (hB : B ≤ w.heap.size)
    (h : ∀ a' c' w', w'.ownsRow B 67 4 (.slice a' (l ++ m).length c') (l ++ m).length (rCells (l ++ m)) → Upd v.ownBlock.toList w w' → K (a.put o.dst (.slice a' (l ++ m).length c')) w') :
    if Region.wanted o (yielded ops a.tmps) = true then Oper.wp Tryz.prog o a w K Q else E := by
  have hw : Region.wanted o (yielded ops a.tmps) = true := by simp [Region.wanted, hgd]
  rw [if_pos hw]
  obtain ⟨i0, hinf, hz0, hz1, hz2⟩ := info_parts Tryz.infoRk
  obtain ⟨au, cu, rfl, hnc, hcm, hau⟩ := own_open2 hu.own
  rcases hau with ⟨rfl, rfl⟩ | ⟨g, rfl⟩
  · have hm0 : m = [] := List.eq_nil_of_length_eq_zero (by omega)
    subst hm0
    obtain ⟨av, cv, rfl, -⟩ := own_open hown
    refine wp_append_own_none' s x 27 ho B 67 i0 4 Tryz.underlying27 hinf _ l.length (rCells l) hs hown (by rw [hx]; rfl) ?_
    have := h av cv w (by rw [List.append_nil]; exact hown) (Upd.refl _ _)
    rw [List.append_nil] at this
    exact this
  · refine wp_append_own w s x 27 ho B 67 i0 _ 4 48 Tryz.underlying27 hinf hz0 hz1 hz2 rfl (by decide) v l.length (rCells l) hs hown ⟨g, 0, none⟩ m.length cu (rCells m) hx (rCells_length m) (rks_cell hu) (rone_cells hu) (by unfold maxLen; omega) (by omega) hB ?_
    intro v' w' hown' hgr _
    have h2 : w'.ownsRow B 67 4 v' (l ++ m).length (rCells (l ++ m)) := by
      rw [List.length_append, rapp]
      exact hown'
    obtain ⟨av, cv, rfl, -⟩ := own_open h2
    exact h av cv w' h2 (Upd.of_grown hgr)
/-- One of the document's locks in a block of its own, as a list. -/
theorem rone_row {w : World} {k C : Nat} {e : RLk} (h : Blk w k (rcel e).toArray 67) (hC : C ≤ k) (hp : StrRow C w e.2 e.1.path) : RRow C w (.slice (some ⟨k, 0, none⟩) 1 1) [e] :=
  ⟨⟨rfl, .inr ⟨k, 1, (rcel e).toArray, rfl, hC, h, Nat.le_refl _, by unfold maxLen; omega, rfl, by simp [rCells]; rfl⟩⟩, fun e' he' => by rw [List.mem_singleton.1 he']; exact hp⟩

set_option maxHeartbeats 4000000 in
theorem rfind_any {B : Nat} {vh vw vp : Value} {lh lw : List RLk} (last : Int) (s : Int) (p : List (List UInt8)) (w : World) (hh : RRow B w vh lh) (hw : RRow B w vw lw) (hp : TxsAt w vp p)
    (h61 : ∀ e ∈ lh, Six e.1.path) (h62 : ∀ e ∈ lw, Six e.1.path) (hp6 : Six p) :
    Calls Tryz.prog 44 #[.agg #[vh, vw, .int .u64 last], .int .i64 s, vp] w fun r w' =>
      ∃ (e : RLk) (n : Int), r = .returned (.tuple #[rval e, .int .i64 n]) ∧ (e.1, n) = findB ⟨lh.map Prod.fst, lw.map Prod.fst, last⟩ ⟨s, p, false, 0⟩ ∧ StrRow B w' e.2 e.1.path ∧ Upd [] w w' := by
  have hp0 := hp
  obtain ⟨pa, pc, hpv, -⟩ := hp0
  have HS1 := hd (fun e (he' : e ∈ lh) W (hu : Upd [] w W) => rsame_any (B := B) e s p vp W (own_upd (L := []) (hh.path e he') hu (by simp)) (hp.upd hu) (h61 e he') hp6)
  have HS2 := hd (fun e (he' : e ∈ lw) W (hu : Upd [] w W) => rsame_any (B := B) e s p vp W (own_upd (L := []) (hw.path e he') hu (by simp)) (hp.upd hu) (h62 e he') hp6)
  have HRV := hd (fun e a c (h : e.2 = .slice a e.1.path.length c) => show rval e = .agg #[.int .i64 e.1.ses, .slice a e.1.path.length c, .bool e.1.excl, .int .u64 e.1.tok] by unfold rval; rw [h])
  rw [hpv] at HS1 HS2 ⊢
  have HH := hd hh
  have HW := hd hw
  obtain ⟨a1, c1, rfl, hn1, hm1, -⟩ := own_open hh.own
  obtain ⟨a2, c2, rfl, hn2, hm2, -⟩ := own_open hw.own
  have hl1 : lh.length ≤ 9223372036854775807 := by unfold maxLen at hm1; omega
  have hl2 : lw.length ≤ 9223372036854775807 := by unfold maxLen at hm2; omega
  have e0 := two_lk2 w #[.slice a1 lh.length c1, .slice a2 lw.length c2, .int .u64 last] #[.int .i64 0, .slice none 0 0, .bool false, .int .u64 0] 29 67
  have HF := hd (show findB ⟨lh.map Prod.fst, lw.map Prod.fst, last⟩ ⟨s, p, false, 0⟩ = if idxP (sameB ⟨s, p, false, 0⟩) (lh.map Prod.fst) < 0 then
    if idxP (sameB ⟨s, p, false, 0⟩) (lw.map Prod.fst) < 0 then (zeroK, -1) else ((lw.map Prod.fst).getD (idxP (sameB ⟨s, p, false, 0⟩) (lw.map Prod.fst)).toNat zeroK, idxP (sameB ⟨s, p, false, 0⟩) (lw.map Prod.fst) + 1)
    else ((lh.map Prod.fst).getD (idxP (sameB ⟨s, p, false, 0⟩) (lh.map Prod.fst)).toNat zeroK, 0) from rfl)
  obtain ⟨F, hF⟩ : ∃ F, findB ⟨lh.map Prod.fst, lw.map Prod.fst, last⟩ ⟨s, p, false, 0⟩ = F := ⟨_, rfl⟩
  rw [hF] at HF ⊢
  clear hh hw hp h61 h62 hp6 hm1 hm2 hn1 hn2 hpv hF
  generalize (⟨s, p, false, 0⟩ : LkS) = key at *
  generalize p.length = pn at *
  go_enter Tryz.func44, Tryz.ntmps44
  go_upto_region 1 with fail
  obtain ⟨W, kb, kr, hkb, hkr, hW, hu, hb, hbr⟩ := e0
  rw [hW, hkb, hkr]
  have HU := hd hu
  have HB := hd hb
  have HBR := hd hbr
  have HKR := hd (show w.heap.size ≤ kr by omega)
  have hc := hb.cell
  clear hW hkb hkr hu hb hbr
  go_wp2_with fail
  go_loopw [15] (fun s wr => ∃ t : Nat, s = .int .i64 t ∧ t ≤ lh.length ∧ (∀ e ∈ lh.take t, sameB key e.1 = false) ∧ Upd [] W wr) (fun s _ => lh.length - (intOf s).toNat)
  case atStart => exact ⟨0, rfl, by omega, by simp, Upd.refl _ _⟩
  case round =>
    obtain ⟨t, rfl, ht, hall, hu⟩ := hrel
    have HU1 := hd (HU.out.trans hu)
    have HUW := hd hu
    have HALL := hd hall
    clear hu hall hc
    by_cases htn : t < lh.length
    · have htn' : (t : Int) < (lh.length : Int) := by omega
      obtain ⟨g, qa, qc, rfl, hgl, hqv, d0, d1, d2, d3⟩ := rk_get HH.out rfl HU1.out t htn
      have HCF := hd (HS1.out lh[t] (List.getElem_mem _))
      have HNX := hd (any_take (p := fun e => sameB key e.1) htn HALL.out)
      have HIT := hd (fun (h : sameB key lh[t].1 = true) => show F = (lh[t].1, 0) by
        have hi := idxP_hit (sameB key) (lh.map Prod.fst) t (by simpa using htn) (fun x hx => by
          rw [← List.map_take] at hx
          obtain ⟨e, he, rfl⟩ := List.mem_map.1 hx
          exact HALL.out e he) (by simpa using h)
        rw [HF.out, hi, if_neg (by omega)]
        simp [htn])
      have HPT := hd (HH.out.path lh[t] (List.getElem_mem _))
      have HV := hd (HRV.out lh[t] qa qc hqv)
      rw [HV.out] at HCF
      have e1 := one_lk wr #[.int .i64 lh[t].1.ses, .slice qa lh[t].1.path.length qc, .bool lh[t].1.excl, .int .u64 lh[t].1.tok] 67
      have HQV := hd hqv
      clear hqv
      generalize lh[t] = y at *
      generalize hyn : y.1.path.length = yn at *
      go_upto_region 4 with fail
      obtain ⟨W3, k3, hk3, hW3, hu3, hb3⟩ := e1
      rw [hW3, hk3]
      have HU3 := hd (HU1.out.trans hu3)
      have HW3 := hd (HUW.out.trans hu3)
      have HB3 := hd hb3
      have hc3 := hb3.cell
      have HC3 := hd (HCF.out W3 HU3.out)
      clear hk3 hW3 hu3 hb3 d0 d1 d2 d3 hyn
      rcases hq : sameB key y.1 with _ | _
      · rw [hq] at HC3
        have HX := hd (HNX.out hq)
        clear hq HIT HNX
        go_wp2_with fail
        refine HC3.out.mono ?_
        rintro r w4 ⟨rfl, hu4⟩
        go_wp2_with fail
        go_roundw
        case rel => exact ⟨t + 1, by go_num, by omega, HX.out, HW3.out.trans hu4⟩
        case measure => simp [intOf]; omega
      · rw [hq] at HC3
        have HX := hd (HIT.out hq)
        clear hq HIT HNX
        go_wp2_with fail
        refine HC3.out.mono ?_
        rintro r w4 ⟨rfl, hu4⟩
        have hbr4 := HBR.out.upd (HW3.out.trans hu4) (by simp)
        have hc4 := (HB3.out.upd hu4 (by simp)).cell
        have hrc := hbr4.cell
        have hrz := hbr4.frozen
        have hrl := hbr4.lt
        have HBR4 := hd hbr4
        have HU4 := hd (HU3.out.trans hu4)
        clear hu4 hbr4 hc3
        go_wp2_with fail
        refine bodyPost_ret (res_rk2 _ 6 7 rfl _ _ kr y (.int .i64 0) rfl rfl (by unfold rcel; rw [HQV.out]; exact putR HBR4.out _ _ _ _) ⟨_, _, _, HQV.out⟩) rfl ?_
        exact ⟨y, 0, rfl, HX.out.symm, own_upd (L := []) HPT.out (up4 HU4.out (.inr HKR.out) _ _ _ _) (by simp), up4 HU4.out (.inr HKR.out) _ _ _ _⟩
    · obtain rfl : t = lh.length := by omega
      have HMS := hd (show idxP (sameB key) (lh.map Prod.fst) = -1 from idxP_miss _ _ (fun x hx => by
        obtain ⟨e, he, rfl⟩ := List.mem_map.1 hx
        exact HALL.out e (by rw [List.take_length]; exact he)))
      clear HALL
      generalize wr = W1 at *
      have hc1 := (HB.out.upd HUW.out (by simp)).cell
      go_wp2_with fail
      go_loopw [28] (fun s wr => ∃ t : Nat, s = .int .i64 t ∧ t ≤ lw.length ∧ (∀ e ∈ lw.take t, sameB key e.1 = false) ∧ Upd [] W1 wr) (fun s _ => lw.length - (intOf s).toNat)
      case atStart => exact ⟨0, rfl, by omega, by simp, Upd.refl _ _⟩
      case round =>
        obtain ⟨t, rfl, ht, hall, hu⟩ := hrel
        have HU2 := hd (HU1.out.trans hu)
        have HUW2 := hd (HUW.out.trans hu)
        have HUV := hd hu
        have HALL := hd hall
        clear hu hall hc1
        by_cases htn : t < lw.length
        · have htn' : (t : Int) < (lw.length : Int) := by omega
          have htw : (t : Int) + 1 ≤ 9223372036854775807 := by omega
          obtain ⟨g, qa, qc, rfl, hgl, hqv, d0, d1, d2, d3⟩ := rk_get HW.out rfl HU2.out t htn
          have HCF := hd (HS2.out lw[t] (List.getElem_mem _))
          have HNX := hd (any_take (p := fun e => sameB key e.1) htn HALL.out)
          have HIT := hd (fun (h : sameB key lw[t].1 = true) => show F = (lw[t].1, (t : Int) + 1) by
            have hi := idxP_hit (sameB key) (lw.map Prod.fst) t (by simpa using htn) (fun x hx => by
              rw [← List.map_take] at hx
              obtain ⟨e, he, rfl⟩ := List.mem_map.1 hx
              exact HALL.out e he) (by simpa using h)
            rw [HF.out, HMS.out, if_pos (by decide), hi, if_neg (by omega)]
            simp [htn])
          have HPT := hd (HW.out.path lw[t] (List.getElem_mem _))
          have HV := hd (HRV.out lw[t] qa qc hqv)
          rw [HV.out] at HCF
          have e1 := one_lk wr #[.int .i64 lw[t].1.ses, .slice qa lw[t].1.path.length qc, .bool lw[t].1.excl, .int .u64 lw[t].1.tok] 67
          have HQV := hd hqv
          clear hqv
          generalize lw[t] = y at *
          generalize hyn : y.1.path.length = yn at *
          go_upto_region 10 with fail
          obtain ⟨W3, k3, hk3, hW3, hu3, hb3⟩ := e1
          rw [hW3, hk3]
          have HU3 := hd (HU2.out.trans hu3)
          have HW3 := hd (HUW2.out.trans hu3)
          have HV3 := hd (HUV.out.trans hu3)
          have HB3 := hd hb3
          have hc3 := hb3.cell
          have HC3 := hd (HCF.out W3 HU3.out)
          clear hk3 hW3 hu3 hb3 d0 d1 d2 d3 hyn
          rcases hq : sameB key y.1 with _ | _
          · rw [hq] at HC3
            have HX := hd (HNX.out hq)
            clear hq HIT HNX
            go_wp2_with fail
            refine HC3.out.mono ?_
            rintro r w4 ⟨rfl, hu4⟩
            go_wp2_with fail
            go_roundw
            case rel => exact ⟨t + 1, by go_num, by omega, HX.out, HV3.out.trans hu4⟩
            case measure => simp [intOf]; omega
          · rw [hq] at HC3
            have HX := hd (HIT.out hq)
            clear hq HIT HNX
            go_wp2_with fail
            refine HC3.out.mono ?_
            rintro r w4 ⟨rfl, hu4⟩
            have hbr4 := HBR.out.upd (HW3.out.trans hu4) (by simp)
            have hc4 := (HB3.out.upd hu4 (by simp)).cell
            have hrc := hbr4.cell
            have hrz := hbr4.frozen
            have hrl := hbr4.lt
            have HBR4 := hd hbr4
            have HU4 := hd (HU3.out.trans hu4)
            clear hu4 hbr4 hc3
            go_wp2_with fail
            refine bodyPost_ret (res_rk2 _ 6 7 rfl _ _ kr y (.int .i64 ((t : Int) + 1)) rfl rfl (by unfold rcel; rw [HQV.out]; exact putR HBR4.out _ _ _ _) ⟨_, _, _, HQV.out⟩) rfl ?_
            exact ⟨y, (t : Int) + 1, rfl, HX.out.symm, own_upd (L := []) HPT.out (up4 HU4.out (.inr HKR.out) _ _ _ _) (by simp), up4 HU4.out (.inr HKR.out) _ _ _ _⟩
        · obtain rfl : t = lw.length := by omega
          have HMS2 := hd (show F = (zeroK, -1) by
            have hi : idxP (sameB key) (lw.map Prod.fst) = -1 := idxP_miss _ _ (fun x hx => by
              obtain ⟨e, he, rfl⟩ := List.mem_map.1 hx
              exact HALL.out e (by rw [List.take_length]; exact he))
            rw [HF.out, HMS.out, if_pos (by decide), hi, if_pos (by decide)])
          clear HALL
          have hbr4 := HBR.out.upd HUW2.out (by simp)
          have hrc := hbr4.cell
          have hrz := hbr4.frozen
          have hrl := hbr4.lt
          have HBR4 := hd hbr4
          clear hbr4
          go_wp2_with fail
          refine bodyPost_ret (res_rk2 _ 6 7 rfl _ _ kr (zeroK, .slice none 0 0) (.int .i64 (-1)) rfl rfl (putR HBR4.out _ _ _ _) ⟨_, _, _, rfl⟩) rfl ?_
          exact ⟨(zeroK, .slice none 0 0), -1, rfl, HMS2.out.symm, World.ownsRow_nil _ _ _ _, up4 HU2.out (.inr HKR.out) _ _ _ _⟩
end Go.Proofs.YtpniggmdokkkcaaGreatDoor
