/-
  route: the error, slices.IndexFunc and ContainsFunc at paths, Find, Len, Prefix, walked. Conditions: texts of sizes that there are; the library's variables hold what they are laid to hold.
-/
import Derived.Test.YtfhmdeamhmjddaaDoorPath6
set_option linter.unusedVariables false
set_option linter.unusedSimpArgs false
set_option maxRecDepth 100000
namespace Go.Proofs.YtfhmdeamhmjddaaDoor
open Go.RowKit

/-- A list of paths' texts in a row of its own. -/
def pathVals (l : List (List UInt8)) : List Value := l.map fun t => .string (txt t)
def PathRow (B : Nat) (w : World) (v : Value) (l : List (List UInt8)) : Prop := w.ownsRow B 24 1 v l.length (pathVals l)
/-- A slice of paths, to be read. -/
def PathsAt (w : World) (v : Value) (l : List (List UInt8)) : Prop :=
  ∃ (a : Option Addr) (c : Nat), v = .slice a l.length c ∧ l.length ≤ c ∧ c ≤ 9223372036854775807 ∧ (0 < l.length → ∃ k o, a = some ⟨k, o, none⟩ ∧ k < w.heap.size ∧ ∀ i (h : i < l.length), w.cell? ⟨k, o + i, none⟩ = some (.string (txt l[i])))
theorem PathsAt.upd {w w' : World} {v : Value} {l : List (List UInt8)} (h : PathsAt w v l) (hu : Upd [] w w') : PathsAt w' v l := TxsAt.upd h hu
theorem PathsAt.take {w : World} {a : Option Addr} {n c : Nat} {l : List (List UInt8)} (h : PathsAt w (.slice a n c) l) (m : Nat) (hm : m ≤ l.length) : PathsAt w (.slice a m c) (l.take m) := TxsAt.take h m hm
theorem prow_paths {B : Nat} {w : World} {v : Value} {l : List (List UInt8)} (h : PathRow B w v l) : PathsAt w v l := by
  obtain ⟨a, cap, rfl, h1, h2, h3⟩ := own_open h
  refine ⟨a, cap, rfl, h1, by unfold maxLen at h2; omega, fun h0 => ?_⟩
  obtain ⟨g, rfl, hg, hgl, hc, -⟩ := h3 h0
  refine ⟨g, 0, rfl, hgl, fun i hi => ?_⟩
  rw [Nat.zero_add, hc i (by omega)]
  simp [pathVals, hi]

theorem rwrong_any (c : Int) (w : World) (hD : Door w) (hc : c ≠ 0) : Calls Tryd.prog 43 #[.int .i64 c] w fun e w' => ∃ v, e = .returned v ∧ Upd [] w w' ∧ ErrAt w' v [(c, [114, 111, 117, 116, 101]), (c, [])] := by
  have HD := hd hD
  clear hD
  go_enter Tryd.func43, Tryd.ntmps43
  go_wp2_with fail
  refine (fof_any c w hc).mono ?_
  rintro e w1 ⟨v, rfl, hu1, hv1⟩
  have HF := hd (fwrap_any v c [] [] [114, 111, 117, 116, 101] w1 (HD.out.later hu1) hv1)
  go_wp2_with fail
  refine HF.out.mono ?_
  rintro e w2 ⟨v2, rfl, hu2, hv2⟩
  go_wp2_with fail
  go_ret
  exact ⟨_, rfl, hu1.trans hu2, hv2⟩

/-- Where the first one is that is so. -/
def findIdx (p : List UInt8 → Bool) : List (List UInt8) → Int
  | [] => -1
  | x :: l => if p x then 0 else if findIdx p l = -1 then -1 else findIdx p l + 1

theorem findIdx_hit (p : List UInt8 → Bool) : ∀ (l : List (List UInt8)) (t : Nat) (h : t < l.length), (∀ x ∈ l.take t, p x = false) → p l[t] = true → findIdx p l = t
  | x :: l, 0, _, _, hp => if_pos hp
  | x :: l, t + 1, h, ha, hp => by
    have h1 : p x = false := ha x (by simp)
    have h2 := findIdx_hit p l t (by simpa using h) (fun y hy => ha y (by simp [hy])) (by simpa using hp)
    unfold findIdx
    rw [h1, h2]
    simp only [Bool.false_eq_true, if_false]
    rw [if_neg (by omega)]
    omega
theorem findIdx_miss (p : List UInt8 → Bool) : ∀ (l : List (List UInt8)), (∀ x ∈ l, p x = false) → findIdx p l = -1
  | [], _ => rfl
  | x :: l, h => by
    have h1 : p x = false := h x (by simp)
    unfold findIdx
    rw [h1, findIdx_miss p l (fun y hy => h y (by simp [hy]))]
    rfl

set_option maxHeartbeats 4000000 in
theorem idxF_any (cap : Value) (p : List UInt8 → Bool) (l : List (List UInt8)) (v : Value) (w : World) (hv : PathsAt w v l)
    (H : ∀ x W, Upd [] w W → Calls Tryd.prog 48 #[.agg #[.string (txt x)], cap] W fun e w' => e = .returned (.bool (p x)) ∧ Upd [] W w') :
    Calls Tryd.prog 47 #[v, .func (.func 48) #[] #[cap]] w fun e w' => e = .returned (.int .i64 (findIdx p l)) ∧ Upd [] w w' := by
  have HV := hd hv
  have HF := hd H
  clear H
  obtain ⟨a, c, rfl, hc, hm, -⟩ := hv
  go_enter Tryd.func47, Tryd.ntmps47
  go_wp2_with fail
  go_loopw [8] (fun c wr => ∃ t : Nat, c = .int .i64 t ∧ t ≤ l.length ∧ (∀ x ∈ l.take t, p x = false) ∧ Upd [] w wr) (fun c _ => l.length - (intOf c).toNat)
  case atStart => exact ⟨0, rfl, by omega, by simp, Upd.refl _ _⟩
  case round =>
    obtain ⟨t, rfl, ht, hall, hu⟩ := hrel
    have HU := hd hu
    have HALL := hd hall
    clear hu hall
    by_cases htn : t < l.length
    · have htn' : (t : Int) < (l.length : Int) := by omega
      obtain ⟨a', c', e, q1, q2, q3⟩ := HV.out
      simp only [Value.slice.injEq] at e
      obtain ⟨rfl, -, rfl⟩ := e
      obtain ⟨ka, oa, rfl, hka, hca⟩ := q3 (by omega)
      have hc0 : wr.cell? ⟨ka, oa + t, none⟩ = some (.string (txt l[t])) := by rw [← hca t htn]; exact World.cell?_of_block (HU.out.block ka hka (by simp))
      have HX := hd (HF.out l[t] wr HU.out)
      have HIN := hd (show ∀ y ∈ l.take (t + 1), y ∈ l.take t ∨ y = l[t] by
        intro y hy
        rw [List.take_succ_eq_append_getElem htn] at hy
        rcases List.mem_append.1 hy with h | h
        · exact .inl h
        · exact .inr (List.mem_singleton.1 h))
      have HHIT := hd (fun h => findIdx_hit p l t htn HALL.out h)
      clear hca q3
      generalize l[t] = x at *
      rcases hp : p x with _ | _
      · rw [hp] at HX
        have HP := hd hp
        clear hp HHIT
        go_wp2_with fail
        refine HX.out.mono ?_
        rintro e w1 ⟨rfl, hu1⟩
        go_wp2_with fail
        go_roundw
        case rel => exact ⟨t + 1, by go_num, by omega, fun y hy => (HIN.out y hy).elim (HALL.out y) (fun e => e ▸ HP.out), HU.out.trans hu1⟩
        case measure => simp [intOf]; omega
      · rw [hp] at HX
        have HE := hd (HHIT.out hp)
        clear hp HHIT
        go_wp2_with fail
        refine HX.out.mono ?_
        rintro e w1 ⟨rfl, hu1⟩
        go_wp2_with fail
        go_ret
        exact ⟨by rw [HE.out]; rfl, HU.out.trans hu1⟩
    · have HE := hd (findIdx_miss p l (by have h := HALL.out; rw [List.take_of_length_le (by omega)] at h; exact h))
      have htn' : ¬ (t : Int) < (l.length : Int) := by omega
      go_wp2_with fail
      go_ret
      exact ⟨by rw [HE.out]; rfl, HU.out⟩

set_option maxHeartbeats 4000000 in
theorem idxN_any (cap : Value) (p : List UInt8 → Bool) (l : List (List UInt8)) (v : Value) (w : World) (hv : PathsAt w v l)
    (H : ∀ x W, Upd [] w W → Calls Tryd.prog 46 #[.agg #[.string (txt x)], cap] W fun e w' => e = .returned (.bool (p x)) ∧ Upd [] W w') :
    Calls Tryd.prog 47 #[v, .func (.func 46) #[] #[cap]] w fun e w' => e = .returned (.int .i64 (findIdx p l)) ∧ Upd [] w w' := by
  have HV := hd hv
  have HF := hd H
  clear H
  obtain ⟨a, c, rfl, hc, hm, -⟩ := hv
  go_enter Tryd.func47, Tryd.ntmps47
  go_wp2_with fail
  go_loopw [8] (fun c wr => ∃ t : Nat, c = .int .i64 t ∧ t ≤ l.length ∧ (∀ x ∈ l.take t, p x = false) ∧ Upd [] w wr) (fun c _ => l.length - (intOf c).toNat)
  case atStart => exact ⟨0, rfl, by omega, by simp, Upd.refl _ _⟩
  case round =>
    obtain ⟨t, rfl, ht, hall, hu⟩ := hrel
    have HU := hd hu
    have HALL := hd hall
    clear hu hall
    by_cases htn : t < l.length
    · have htn' : (t : Int) < (l.length : Int) := by omega
      obtain ⟨a', c', e, q1, q2, q3⟩ := HV.out
      simp only [Value.slice.injEq] at e
      obtain ⟨rfl, -, rfl⟩ := e
      obtain ⟨ka, oa, rfl, hka, hca⟩ := q3 (by omega)
      have hc0 : wr.cell? ⟨ka, oa + t, none⟩ = some (.string (txt l[t])) := by rw [← hca t htn]; exact World.cell?_of_block (HU.out.block ka hka (by simp))
      have HX := hd (HF.out l[t] wr HU.out)
      have HIN := hd (show ∀ y ∈ l.take (t + 1), y ∈ l.take t ∨ y = l[t] by
        intro y hy
        rw [List.take_succ_eq_append_getElem htn] at hy
        rcases List.mem_append.1 hy with h | h
        · exact .inl h
        · exact .inr (List.mem_singleton.1 h))
      have HHIT := hd (fun h => findIdx_hit p l t htn HALL.out h)
      clear hca q3
      generalize l[t] = x at *
      rcases hp : p x with _ | _
      · rw [hp] at HX
        have HP := hd hp
        clear hp HHIT
        go_wp2_with fail
        refine HX.out.mono ?_
        rintro e w1 ⟨rfl, hu1⟩
        go_wp2_with fail
        go_roundw
        case rel => exact ⟨t + 1, by go_num, by omega, fun y hy => (HIN.out y hy).elim (HALL.out y) (fun e => e ▸ HP.out), HU.out.trans hu1⟩
        case measure => simp [intOf]; omega
      · rw [hp] at HX
        have HE := hd (HHIT.out hp)
        clear hp HHIT
        go_wp2_with fail
        refine HX.out.mono ?_
        rintro e w1 ⟨rfl, hu1⟩
        go_wp2_with fail
        go_ret
        exact ⟨by rw [HE.out]; rfl, HU.out.trans hu1⟩
    · have HE := hd (findIdx_miss p l (by have h := HALL.out; rw [List.take_of_length_le (by omega)] at h; exact h))
      have htn' : ¬ (t : Int) < (l.length : Int) := by omega
      go_wp2_with fail
      go_ret
      exact ⟨by rw [HE.out]; rfl, HU.out⟩

theorem fclo_any (x o : List UInt8) (k : Nat) (w : World) (hb : Blk w k #[.string (txt o)] 24) :
    Calls Tryd.prog 48 #[.agg #[.string (txt x)], .pointer (some ⟨k, 0, none⟩)] w fun e w' => e = .returned (.bool (overT x o)) ∧ Upd [] w w' := by
  have hc1 := (Blk.new w #[.string (txt x)] 24).cell
  have hc2 := (hb.alloc (.cells #[.string (txt x)] 24)).cell
  have HU := hd ((Upd.refl [] w).alloc (.cells #[.string (txt x)] 24))
  have HO := hd (pover_any x o)
  clear hb
  go_enter Tryd.func48, Tryd.ntmps48
  go_wp2_with fail
  refine (HO.out _).mono ?_
  rintro e w1 ⟨rfl, hu1⟩
  go_wp2_with fail
  go_ret
  exact ⟨rfl, HU.out.trans hu1⟩
theorem nclo_any (x o : List UInt8) (k : Nat) (w : World) (hb : Blk w k #[.string (txt o)] 24) :
    Calls Tryd.prog 46 #[.agg #[.string (txt x)], .pointer (some ⟨k, 0, none⟩)] w fun e w' => e = .returned (.bool (overT o x || overT x o)) ∧ Upd [] w w' := by
  have hc1 := (Blk.new w #[.string (txt x)] 24).cell
  have hc2 := (hb.alloc (.cells #[.string (txt x)] 24)).cell
  have HU := hd ((Upd.refl [] w).alloc (.cells #[.string (txt x)] 24))
  have HO := hd (pinline_any o x)
  clear hb
  generalize (overT o x || overT x o) = q at *
  go_enter Tryd.func46, Tryd.ntmps46
  go_wp2_with fail
  refine (HO.out _).mono ?_
  rintro e w1 ⟨rfl, hu1⟩
  go_wp2_with fail
  go_ret
  exact ⟨rfl, HU.out.trans hu1⟩
theorem findIdx_range (p : List UInt8 → Bool) : ∀ l : List (List UInt8), -1 ≤ findIdx p l ∧ findIdx p l < (l.length : Int)
  | [] => ⟨by show (-1 : Int) ≤ -1; decide, by show (-1 : Int) < 0; decide⟩
  | x :: l => by
    have h := findIdx_range p l
    unfold findIdx
    rw [List.length_cons]
    split
    · omega
    · split <;> omega
theorem contains_any (o : List UInt8) (k : Nat) (l : List (List UInt8)) (v : Value) (w : World) (hv : PathsAt w v l) (hb : Blk w k #[.string (txt o)] 24) :
    Calls Tryd.prog 45 #[v, .func (.func 46) #[] #[.pointer (some ⟨k, 0, none⟩)]] w fun e w' => e = .returned (.bool (decide (0 ≤ findIdx (fun x => overT o x || overT x o) l))) ∧ Upd [] w w' := by
  have HI := hd (idxN_any (.pointer (some ⟨k, 0, none⟩)) (fun x => overT o x || overT x o) l v w hv (fun x W hu => nclo_any x o k W (hb.upd hu (by simp))))
  generalize findIdx (fun x => overT o x || overT x o) l = q at *
  clear hb
  obtain ⟨a, c, rfl, -⟩ := hv
  go_enter Tryd.func45, Tryd.ntmps45
  go_wp2_with fail
  refine HI.out.mono ?_
  rintro e w1 ⟨rfl, hu1⟩
  go_wp2_with fail
  go_ret
  exact ⟨by simp, hu1⟩
/-- A table of subtrees. -/
def TabAt (B : Nat) (w : World) (k : Nat) (l : List (List UInt8)) : Prop := ∃ v, Blk w k #[v] 77 ∧ PathRow B w v l
theorem TabAt.later {B : Nat} {w w' : World} {k : Nat} {l : List (List UInt8)} (h : TabAt B w k l) (hu : Upd [] w w') : TabAt B w' k l := by
  obtain ⟨v, h1, h2⟩ := h
  exact ⟨v, h1.upd hu (by simp), own_upd (L := []) h2 hu (by simp)⟩
def noRoute : List (Int × List UInt8) := [(11, [114, 111, 117, 116, 101]), (11, [])]
def routeErr (q : Int) : List (Int × List UInt8) := if q < 0 then noRoute else []
set_option maxHeartbeats 4000000 in
theorem find_any (B k : Nat) (l : List (List UInt8)) (o : List UInt8) (w : World) (hD : Door w) (h : TabAt B w k l) :
    Calls Tryd.prog 26 #[.pointer (some ⟨k, 0, none⟩), .agg #[.string (txt o)]] w fun e w' => ∃ ev, e = .returned (.tuple #[.int .i64 (findIdx (fun x => overT x o) l), ev]) ∧ Upd [] w w' ∧ ErrAt w' ev (routeErr (findIdx (fun x => overT x o) l)) := by
  obtain ⟨v, hb, hrow⟩ := h
  have HD := hd hD
  have e0 : ∃ W j, w.heap.size = j ∧ w.alloc (.cells #[.string (txt o)] 24) = W ∧ Upd [] w W ∧ Blk W j #[.string (txt o)] 24 := ⟨_, _, rfl, rfl, (Upd.refl _ _).alloc _, Blk.new _ _ _⟩
  have HB := hd hb
  have HR := hd (prow_paths hrow)
  obtain ⟨a, c, rfl, -⟩ := own_open hrow
  have hrg := findIdx_range (fun x => overT x o) l
  clear hD hb hrow
  go_enter Tryd.func26, Tryd.ntmps26
  go_upto_region 1 with fail
  obtain ⟨W, j, hj, hW, hu, hbj⟩ := e0
  rw [hW, hj]
  have HU := hd hu
  have hc := (HB.out.upd hu (by simp)).cell
  have HI := hd (idxF_any (.pointer (some ⟨j, 0, none⟩)) (fun x => overT x o) l _ W (HR.out.upd hu) (fun x W' hu' => fclo_any x o j W' (hbj.upd hu' (by simp))))
  have HRW := hd (fun W' (h : Upd [] w W') => rwrong_any 11 W' (HD.out.later h) (by decide))
  clear hW hj hu hbj
  have HQ := hd (show ∃ q, findIdx (fun x => overT x o) l = q from ⟨_, rfl⟩)
  obtain ⟨q, hq⟩ := HQ.out
  rw [hq] at HI hrg
  have HQ2 := hd hq
  clear hq HQ
  by_cases h0 : q < 0
  · go_wp2_with fail
    refine HI.out.mono ?_
    rintro e w1 ⟨rfl, hu1⟩
    have HU1 := hd (HU.out.trans hu1)
    clear hu1
    go_wp2_with fail
    refine (HRW.out _ HU1.out).mono ?_
    rintro e w2 ⟨ev, rfl, hu2, hev⟩
    obtain rfl : q = -1 := by omega
    go_wp2_with fail
    go_ret2
    refine ⟨_, by rw [HQ2.out]; rfl, HU1.out.trans hu2, ?_⟩
    rw [HQ2.out]
    exact hev
  · go_wp2_with fail
    refine HI.out.mono ?_
    rintro e w1 ⟨rfl, hu1⟩
    have H0 := hd h0
    go_wp2_with fail
    go_ret2
    refine ⟨_, by rw [HQ2.out]; rfl, HU.out.trans hu1, ?_⟩
    rw [HQ2.out, show routeErr q = [] from if_neg (by have := H0.out; omega)]
    rfl
end Go.Proofs.YtfhmdeamhmjddaaDoor
