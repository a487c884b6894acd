/-
  locks.order, slices.BinarySearchFunc at locks, may, Find, walked. Conditions: good paths; the library's variables hold what they are laid to hold.
-/
import Derived.Test.YtpniggmdokkkcaaGreatDoorMb6
import Derived.Laws.IdiomCopy
import Derived.Lib.AppendZeros
import Derived.Lib.AppendZerosOnto
import Derived.Lib.Overlaps
import Derived.Lib.SliceRun
import Derived.Laws.NewBlocks
import Derived.Deep.RegionLaw
set_option linter.unusedVariables false
set_option linter.unusedSimpArgs false
set_option maxRecDepth 100000
namespace Go.Proofs.YtpniggmdokkkcaaGreatDoor
open Go.RowKit

/-- What is known of a lock's path. -/
structure Six (m : List (List UInt8)) : Prop where
  good : ∀ x ∈ m, partL x = true
  few : m.length ≤ 6
  clean : Clean m
  size : (textL m).length ≤ 1000
  parts : parts5 (textL m) = m
theorem six_good {m : List (List UInt8)} (h1 : ∀ x ∈ m, partL x = true) (h2 : m.length ≤ 6) : Six m := by
  have hc := clean_of h1
  exact ⟨h1, h2, hc, by have := text_small (l := m) (fun x hx => (part_short (h1 x hx)).1); omega, parts_text hc⟩
theorem six_of (l : List (List UInt8)) : Six (mk6 l) := six_good (mk6_fine l).1 (mk6_fine l).2
/-- Which of two locks is ahead. -/
def ordI (x y : LkS) : Int := orI (cmpL x.path y.path) (cmpI x.ses y.ses)

set_option maxHeartbeats 2000000 in
theorem lorder_any (x y : LkS) (w : World) (hD : Door w) (hx : Six x.path) (hy : Six y.path) : Calls Tryz.prog 57 #[x.val, y.val] w fun e w' => e = .returned (.int .i64 (ordI x y)) ∧ Upd [] w w' := by
  obtain ⟨s1, p1, x1, t1⟩ := x
  obtain ⟨s2, p2, x2, t2⟩ := y
  have HPC := hd (fun W (h : Door W) => pcompare_any (textL p1) (textL p2) W h (by have := hx.size; simp only at this; omega) (by have := hy.size; simp only at this; omega))
  rw [hx.parts, hy.parts] at HPC
  unfold LkS.val ordI
  simp only
  generalize cmpL p1 p2 = q at *
  generalize textL p1 = a at *
  generalize textL p2 = b at *
  clear hx hy
  have HD := hd hD
  clear hD
  have e0 := two_lk w #[.int .i64 s1, .string (txt a), .bool x1, .int .u64 t1] #[.int .i64 s2, .string (txt b), .bool x2, .int .u64 t2] 42
  go_enter Tryz.func57, Tryz.ntmps57
  go_upto_region 1 with fail
  obtain ⟨W, k, j, hk, hj, hW, hu, hb, hb'⟩ := e0
  rw [hW, hk, hj]
  have HU := hd hu
  have HKS := hd (show ∀ W', Upd [] W W' → ((∀ o', W'.cell? ⟨k, o', none⟩ = #[.int .i64 s1, .string (txt a), .bool x1, .int .u64 t1][o']?) ∧ (∀ o', W'.cell? ⟨j, o', none⟩ = #[.int .i64 s2, .string (txt b), .bool x2, .int .u64 t2][o']?)) from fun W' h => ⟨(hb.upd h (by simp)).cell, (hb'.upd h (by simp)).cell⟩)
  have hc := hb.cell
  have hc' := hb'.cell
  clear hW hk hj hu hb hb'
  go_region_held3 (fun W' => (∀ o', W'.cell? ⟨k, o', none⟩ = #[.int .i64 s1, .string (txt a), .bool x1, .int .u64 t1][o']?) ∧ (∀ o', W'.cell? ⟨j, o', none⟩ = #[.int .i64 s2, .string (txt b), .bool x2, .int .u64 t2][o']?))
    ((refine HKS.out _ ?_; repeat (first | with_reducible exact Upd.refl _ _ | with_reducible exact hup1 | with_reducible refine Upd.drew ?_ | with_reducible refine Upd.alloc ?_ _)))
    (first
    | ((with_reducible refine (HPC.out _ (HD.out.later ((HU.out.trans ((Upd.refl [] W).drew))))).mono ?_); rintro e w1 ⟨rfl, hu1⟩; have hup1 : Upd [] W w1 := ((Upd.refl [] W).drew).trans hu1)
    | ((with_reducible refine (compare1_any _ _ _).mono ?_); rintro e w2 ⟨rfl, rfl⟩)
    | ((with_reducible refine (or_any _ _ _ _ (Blk.new' _ _ _ (by simp))).mono ?_); rintro e w3 ⟨rfl, rfl⟩)
    | fail "no arm")
  all_goals
    go_wp2_with fail
    go_ret
    exact ⟨rfl, HU.out.trans (hup1.alloc _)⟩

/-- So many locks are ahead of one. -/
def ahead (l : List LkS) (x : LkS) : Nat := (l.takeWhile fun e => decide (ordI e x < 0)).length
theorem ahead_eq (x : LkS) : ∀ (l : List LkS) (k : Nat), k ≤ l.length → (∀ t (ht : t < l.length), t < k → ordI l[t] x < 0) → (∀ t (ht : t < l.length), k ≤ t → 0 ≤ ordI l[t] x) → ahead l x = k := by
  intro l
  unfold ahead
  induction l with
  | nil => intro k hk _ _; simp at hk; simp [hk]
  | cons a t ih =>
    intro k hk h1 h2
    cases k with
    | zero =>
      have := h2 0 (by simp) (by omega)
      simp at this
      rw [List.takeWhile_cons_of_neg (by simpa using this)]
      rfl
    | succ k =>
      have := h1 0 (by simp) (by omega)
      simp at this
      rw [List.takeWhile_cons_of_pos (by simpa using this)]
      simp only [List.length_cons]
      rw [ih k (by simpa using hk) (fun t ht hk => by have := h1 (t + 1) (by simpa using ht) (by omega); rwa [List.getElem_cons_succ] at this) (fun t ht hk => by have := h2 (t + 1) (by simpa using ht) (by omega); rwa [List.getElem_cons_succ] at this)]
/-- The locks of a list, against one: those ahead of it come first. -/
def Mono (l : List LkS) (x : LkS) : Prop := ∀ i j (_ : i ≤ j) (hj : j < l.length), ordI l[j] x < 0 → ordI (l[i]'(by omega)) x < 0

set_option maxHeartbeats 4000000 in
theorem search_any (x : LkS) (l : List LkS) (v : Value) (w : World) (hv : LksAt w v l) (hD : Door w) (hl : ∀ y ∈ l, Six y.path) (hx : Six x.path) (hm : Mono l x) (hln : l.length ≤ 1024) :
    Calls Tryz.prog 62 #[v, x.val, .func (.func 57) #[] #[]] w fun r w' =>
      ∃ b, r = .returned (.tuple #[.int .i64 (ahead l x : Int), .bool b]) ∧ Upd [] w w' := by
  have HO := hd (fun y (hy : y ∈ l) W (h : Upd [] w W) => lorder_any y x W (hD.later h) (hl y hy) hx)
  have HM := hd hm
  have e0 := one_lk w x.cells.toArray 42
  have HV := hd hv
  have HA := hd (fun k => ahead_eq x l k)
  obtain ⟨a, c, rfl, hc, hcm, -⟩ := hv
  have hxc : x.cells.toArray = #[.int .i64 x.ses, .string (txt (textL x.path)), .bool x.excl, .int .u64 x.tok] := rfl
  rw [hxc] at e0
  unfold LkS.val at HO ⊢
  clear hl hx hm hD hxc
  obtain ⟨n, hn⟩ : ∃ n, l.length = n := ⟨_, rfl⟩
  obtain ⟨ah, hah⟩ : ∃ ah, ahead l x = ah := ⟨_, rfl⟩
  rw [hn] at hc hln ⊢
  rw [hah] at HA ⊢
  have HN := hd hn
  have HAH := hd hah
  clear hn hah
  go_enter Tryz.func62, Tryz.ntmps62
  go_upto_region 1 with fail
  obtain ⟨W0, kb, hkb, hW0, hu0, hb0⟩ := e0
  rw [hW0, hkb]
  have HU0 := hd hu0
  have HB0 := hd hb0
  clear hW0 hkb hu0 hb0
  go_wp2_with fail
  go_loopw [9, 10] (fun s9 s10 wr => ∃ lo hi : Nat, s9 = .int .i64 lo ∧ s10 = .int .i64 hi ∧ lo ≤ hi ∧ hi ≤ n ∧ Upd [] W0 wr ∧ Hd ((∀ t (ht : t < l.length), t < lo → ordI l[t] x < 0) ∧ (∀ t (ht : t < l.length), hi ≤ t → 0 ≤ ordI l[t] x))) (fun s9 s10 _ => (intOf s10 - intOf s9).toNat)
  case atStart => exact ⟨0, n, rfl, rfl, Nat.zero_le _, Nat.le_refl _, Upd.refl _ _, hd ⟨fun t ht h => by omega, fun t ht h => by have := HN.out; omega⟩⟩
  case round =>
    obtain ⟨lo, hi, rfl, rfl, hlh, hin, hu, hI⟩ := hrel
    have HU := hd hu
    clear hu
    by_cases hlt : lo < hi
    · obtain ⟨m, hml, hmh, hmi⟩ : ∃ m : Nat, lo ≤ m ∧ m < hi ∧ ((lo : Int) + (hi : Int)) / 2 = (m : Int) := ⟨(lo + hi) / 2, by omega, by omega, by omega⟩
      have hmb : m < l.length := by have := HN.out; omega
      have hmi1 : (m : Int) < (n : Int) := by omega
      have hmi0 : (0 : Int) ≤ (m : Int) := by omega
      obtain ⟨g, rfl, hgl, c0, c1, c2, c3⟩ := lks_get HV.out (HU0.out.trans HU.out) m hmb
      have hcl : ∀ (y : Later [] wr) o, y.world.cell? ⟨g, o, none⟩ = wr.cell? ⟨g, o, none⟩ := fun y o => World.cell?_of_block (y.upd.block g hgl (by simp))
      have hk0 : ∀ (y : Later [] wr) o', y.world.cell? ⟨kb, o', none⟩ = #[.int .i64 x.ses, .string (txt (textL x.path)), .bool x.excl, .int .u64 x.tok][o']? := fun y => (HB0.out.upd (HU.out.trans y.upd) (by simp)).cell
      have hk1 : ∀ (y : Later [] wr), y.world.cell? ⟨g, m * 4, none⟩ = some (.int .i64 l[m].ses) := fun y => (hcl y _).trans c0
      have hk2 : ∀ (y : Later [] wr), y.world.cell? ⟨g, m * 4 + 1, none⟩ = some (.string (txt (textL l[m].path))) := fun y => (hcl y _).trans c1
      have hk3 : ∀ (y : Later [] wr), y.world.cell? ⟨g, m * 4 + 2, none⟩ = some (.bool l[m].excl) := fun y => (hcl y _).trans c2
      have hk4 : ∀ (y : Later [] wr), y.world.cell? ⟨g, m * 4 + 3, none⟩ = some (.int .u64 l[m].tok) := fun y => (hcl y _).trans c3
      have HX := hd (fun y : Later [] wr => HO.out l[m] (List.getElem_mem _) y.world ((HU0.out.trans HU.out).trans y.upd))
      have HLO := hd (fun (h : ordI l[m] x < 0) => show (∀ t (ht : t < l.length), t < m + 1 → ordI l[t] x < 0) from fun t ht h1 => HM.out t m (by omega) hmb h)
      have HHI := hd (fun (h : ¬ ordI l[m] x < 0) => show (∀ t (ht : t < l.length), m ≤ t → 0 ≤ ordI l[t] x) from fun t ht h1 => by
        rcases Int.lt_or_le (ordI l[t] x) 0 with h2 | h2
        · exact absurd (HM.out m t h1 ht h2) h
        · exact h2)
      clear hcl c0 c1 c2 c3
      generalize l[m] = y at *
      generalize hoi : ordI y x = oi at *
      clear hoi
      go_upto_region 5 with fail
      refine wp_region_later [] (by kernel_rfl) (by kernel_rfl) ?_
      repeat (go_big_quiet_step (first
        | (go_at_call 57; refine later_call (HX.out _))))
      refine wpQuiet_nil ?_
      intro W9 hu9
      have HU9 := hd (HU.out.trans hu9)
      clear hu9 hk0 hk1 hk2 hk3 hk4 HX hmi hmi1 hmi0 hmb
      by_cases hsn : oi < 0
      · have HR := hd (HLO.out hsn)
        clear HLO HHI
        go_wp2_with fail
        go_roundw
        case rel => exact ⟨m + 1, hi, by go_num, rfl, by omega, hin, HU9.out, hd ⟨HR.out, hI.out.2⟩⟩
        case measure => simp [intOf]; omega
      · have HR := hd (HHI.out hsn)
        clear HLO HHI
        go_wp2_with fail
        go_roundw
        case rel => exact ⟨lo, m, rfl, rfl, hml, by omega, HU9.out, hd ⟨hI.out.1, HR.out⟩⟩
        case measure => simp [intOf]; omega
    · obtain rfl : hi = lo := by omega
      have HE := hd (HA.out hi (by have := HN.out; omega) hI.out.1 hI.out.2)
      obtain rfl : ah = hi := HE.out
      by_cases hhl : ah < l.length
      · obtain ⟨g, rfl, hgl, c0, c1, c2, c3⟩ := lks_get HV.out (HU0.out.trans HU.out) ah hhl
        have hcl : ∀ (y : Later [] wr) o, y.world.cell? ⟨g, o, none⟩ = wr.cell? ⟨g, o, none⟩ := fun y o => World.cell?_of_block (y.upd.block g hgl (by simp))
        have hk0 : ∀ (y : Later [] wr) o', y.world.cell? ⟨kb, o', none⟩ = #[.int .i64 x.ses, .string (txt (textL x.path)), .bool x.excl, .int .u64 x.tok][o']? := fun y => (HB0.out.upd (HU.out.trans y.upd) (by simp)).cell
        have hk1 : ∀ (y : Later [] wr), y.world.cell? ⟨g, ah * 4, none⟩ = some (.int .i64 l[ah].ses) := fun y => (hcl y _).trans c0
        have hk2 : ∀ (y : Later [] wr), y.world.cell? ⟨g, ah * 4 + 1, none⟩ = some (.string (txt (textL l[ah].path))) := fun y => (hcl y _).trans c1
        have hk3 : ∀ (y : Later [] wr), y.world.cell? ⟨g, ah * 4 + 2, none⟩ = some (.bool l[ah].excl) := fun y => (hcl y _).trans c2
        have hk4 : ∀ (y : Later [] wr), y.world.cell? ⟨g, ah * 4 + 3, none⟩ = some (.int .u64 l[ah].tok) := fun y => (hcl y _).trans c3
        have HX := hd (fun y : Later [] wr => HO.out l[ah] (List.getElem_mem _) y.world ((HU0.out.trans HU.out).trans y.upd))
        have hhl' : (ah : Int) < (n : Int) := by have := HN.out; omega
        have hmi0 : (0 : Int) ≤ (ah : Int) := by omega
        clear HAH HE hcl c0 c1 c2 c3
        generalize l[ah] = y at *
        generalize ordI y x = oi at *
        go_upto_region 8 with fail
        refine wp_region_later [] (by kernel_rfl) (by kernel_rfl) ?_
        repeat (go_big_quiet_step (first
          | (go_at_call 57; refine later_call (HX.out _))))
        refine wpQuiet_nil ?_
        intro W9 hu9
        have HU9 := hd (HU.out.trans hu9)
        clear hu9 hk0 hk1 hk2 hk3 hk4 HX
        go_wp2_with fail
        go_ret2
        exact ⟨_, rfl, HU0.out.trans HU9.out⟩
      · have hhl' : ¬ (ah : Int) < (n : Int) := by have := HN.out; omega
        clear HAH HE
        go_upto_region 8 with fail
        refine wp_region_later [] (by kernel_rfl) (by kernel_rfl) ?_
        repeat (go_big_quiet_step (fail))
        refine wpQuiet_nil ?_
        intro W9 hu9
        have HU9 := hd (HU.out.trans hu9)
        clear hu9
        go_wp2_with fail
        go_ret2
        exact ⟨.inl rfl, HU0.out.trans HU9.out⟩
end Go.Proofs.YtpniggmdokkkcaaGreatDoor

/-
  locks: a book's Clone, may, Find, walked. Conditions: those that each theorem states.
-/
set_option linter.unusedVariables false
set_option linter.unusedSimpArgs false
set_option maxRecDepth 100000
namespace Go.Proofs.YtpniggmdokkkcaaGreatDoor
open Go.RowKit

def zeroK : LkS := ⟨0, [], false, 0⟩
theorem load_lk (W : World) (k : Nat) (x : LkS) (h : Blk W k x.cells.toArray 42) : (loadVar 42 ⟨k, 0, none⟩).run Tryz.prog W = .ok x.val W := by
  have hc := h.cell
  simp only [LkS.cells] at hc
  have c0 := hc 0
  have c1 := hc 1
  have c2 := hc 2
  have c3 := hc 3
  simp at c0 c1 c2 c3
  unfold LkS.val
  clear hc
  go_simp
theorem res_lk1 (fn : Func) (s : Nat) (hr : fn.results = #[.cell s 42]) (tmps : Array Value) (W : World) (k : Nat) (x : LkS) (ht : tmps[s]? = some (.pointer (some ⟨k, 0, none⟩))) (h : Blk W k x.cells.toArray 42) :
    (results fn tmps).run Tryz.prog W = .ok x.val W := by
  simp [results, hr, ht, asAddr, load_lk W k x h]
theorem res_lk2 (fn : Func) (s t : Nat) (hr : fn.results = #[.cell s 42, .tmp t]) (tmps : Array Value) (W : World) (k : Nat) (x : LkS) (v : Value) (ht : tmps[s]? = some (.pointer (some ⟨k, 0, none⟩))) (hv : tmps[t]? = some v) (h : Blk W k x.cells.toArray 42) :
    (results fn tmps).run Tryz.prog W = .ok (.tuple #[x.val, v]) W := by
  simp [results, hr, ht, hv, asAddr, load_lk W k x h]
theorem res_lk3 (fn : Func) (s t u : Nat) (hr : fn.results = #[.cell s 42, .tmp t, .tmp u]) (tmps : Array Value) (W : World) (k : Nat) (x : LkS) (v v' : Value) (ht : tmps[s]? = some (.pointer (some ⟨k, 0, none⟩))) (hv : tmps[t]? = some v) (hv' : tmps[u]? = some v') (h : Blk W k x.cells.toArray 42) :
    (results fn tmps).run Tryz.prog W = .ok (.tuple #[x.val, v, v']) W := by
  simp [results, hr, ht, hv, hv', asAddr, load_lk W k x h]
theorem put4 {W : World} {k : Nat} {T : TypeId} {c0 c1 c2 c3 : Value} (h : Blk W k #[c0, c1, c2, c3] T) (x : LkS) :
    Blk ((((W.setCell ⟨k, 0, none⟩ (.int .i64 x.ses)).setCell ⟨k, 1, none⟩ (.string (txt (textL x.path)))).setCell ⟨k, 2, none⟩ (.bool x.excl)).setCell ⟨k, 3, none⟩ (.int .u64 x.tok)) k x.cells.toArray T :=
  (((h.set 0 _).set 1 _).set 2 _).set 3 _
theorem up4 {L : List Nat} {w W : World} {k : Nat} (h : Upd L w W) (hk : k ∈ L ∨ w.heap.size ≤ k) (a b c d : Value) : Upd L w ((((W.setCell ⟨k, 0, none⟩ a).setCell ⟨k, 1, none⟩ b).setCell ⟨k, 2, none⟩ c).setCell ⟨k, 3, none⟩ d) :=
  (((h.setCell (p := ⟨k, 0, none⟩) hk a).setCell (p := ⟨k, 1, none⟩) hk b).setCell (p := ⟨k, 2, none⟩) hk c).setCell (p := ⟨k, 3, none⟩) hk d
theorem three_lk (w : World) (c d e : Array Value) (S T U : TypeId) : ∃ W k j i, w.heap.size = k ∧ k + 1 = j ∧ j + 1 = i ∧ ((w.alloc (.cells c S)).alloc (.cells d T)).alloc (.cells e U) = W ∧ Upd [] w W ∧ Blk W k c S ∧ Blk W j d T ∧ Blk W i e U := by
  obtain ⟨W, k, j, hk, hj, hW, hu, h1, h2⟩ := two_lk2 w c d S T
  subst hW
  refine ⟨_, k, j, j + 1, hk, hj, rfl, rfl, hu.alloc _, h1.alloc _, h2.alloc _, ?_⟩
  have := Blk.new ((w.alloc (.cells c S)).alloc (.cells d T)) e U
  simpa [← hk, ← hj] using this

set_option maxHeartbeats 2000000 in
theorem may_any {B k : Nat} {vh vw : Value} {d : BkS} (x : LkS) (el : List LkS) (ve : Value) (w : World) (h : BookAt B w k vh vw d) (he : LksAt w ve el) :
    Calls Tryz.prog 33 #[.pointer (some ⟨k, 0, none⟩), x.val, ve] w fun e w' => e = .returned (.bool (!(d.held.any (conflB x)) && !(el.any (conflB x)))) ∧ Upd [] w w' := by
  have e0 := one_lk w x.cells.toArray 42
  have HX := hd (show x.val = .agg #[.int .i64 x.ses, .string (txt (textL x.path)), .bool x.excl, .int .u64 x.tok] from rfl)
  have hxc : x.cells.toArray = #[.int .i64 x.ses, .string (txt (textL x.path)), .bool x.excl, .int .u64 x.tok] := rfl
  rw [hxc] at e0
  have H1 := hd (fun W (hu : Upd [] w W) => contains_any _ _ _ _ d.held vh W (row_lks (h.later hu).held) (says_conf [] x d.held W))
  have H2 := hd (fun W (hu : Upd [] w W) => contains_any _ _ _ _ el ve W (he.later hu) (says_conf [] x el W))
  rw [HX.out] at H1 H2 ⊢
  have hb := h.blk
  simp only [BkS.cells] at hb
  obtain ⟨a1, n1, rfl, -⟩ := own_open h.held
  obtain ⟨a2, n2, rfl, -⟩ := he
  clear h hxc
  generalize d.held.any (conflB x) = q1 at *
  generalize el.any (conflB x) = q2 at *
  go_enter Tryz.func33, Tryz.ntmps33
  go_upto_region 1 with fail
  obtain ⟨W, j, hj, hW, hu, hbj⟩ := e0
  rw [hW, hj]
  have HU := hd hu
  have hlt : k < W.heap.size := by have := hb.lt; have := hu.size; omega
  have hc := (hb.upd hu (by simp)).cell
  have hc' := hbj.cell
  have hk1 : ∀ (y : Later [] W) o', y.world.cell? ⟨k, o', none⟩ = #[.slice a1 d.held.length n1, vw, .int .u64 d.last][o']? := fun y => ((hb.upd hu (by simp)).upd y.upd (by simp)).cell
  have hk2 : ∀ (y : Later [] W) o', y.world.cell? ⟨j, o', none⟩ = #[.int .i64 x.ses, .string (txt (textL x.path)), .bool x.excl, .int .u64 x.tok][o']? := fun y => (hbj.upd y.upd (by simp)).cell
  have HP1 := hd (fun y : Later [] W => H1.out y.world (HU.out.trans y.upd))
  have HP2 := hd (fun y : Later [] W => H2.out y.world (HU.out.trans y.upd))
  clear hW hj hu hb hbj H1 H2
  cases q1 with
  | true =>
    refine wp_region_later [] (by kernel_rfl) (by kernel_rfl) ?_
    repeat (go_big_quiet_step (first
      | (go_at_call 58; refine later_call (HP1.out _))))
    refine wpQuiet_nil ?_
    intro W9 hu9
    have HU9 := hd (HU.out.trans hu9)
    clear hu9 hk1 hk2
    go_wp2_with fail
    go_ret
    exact ⟨by simp, HU9.out⟩
  | false =>
    refine wp_region_later [] (by kernel_rfl) (by kernel_rfl) ?_
    repeat (go_big_quiet_step (first
      | (go_at_call 58; refine later_call (HP1.out _))
      | (go_at_call 58; refine later_call (HP2.out _))))
    refine wpQuiet_nil ?_
    intro W9 hu9
    have HU9 := hd (HU.out.trans hu9)
    clear hu9 hk1 hk2
    go_wp2_with fail
    go_ret
    exact ⟨by simp, HU9.out⟩

/-- Where a session's, of a path, stands, and what it is. -/
def findB (d : BkS) (x : LkS) : LkS × Int :=
  if idxP (sameB x) d.held < 0 then
    if idxP (sameB x) d.waits < 0 then (zeroK, -1) else (d.waits.getD (idxP (sameB x) d.waits).toNat zeroK, idxP (sameB x) d.waits + 1)
  else (d.held.getD (idxP (sameB x) d.held).toNat zeroK, 0)

set_option maxHeartbeats 4000000 in
theorem find_any {B k : Nat} {vh vw : Value} {d : BkS} (s : Int) (p : List (List UInt8)) (w : World) (h : BookAt B w k vh vw d) (hl1 : d.held.length ≤ 1024) (hl2 : d.waits.length ≤ 1024) :
    Calls Tryz.prog 12 #[.pointer (some ⟨k, 0, none⟩), .int .i64 s, .agg #[.string (txt (textL p))]] w fun e w' =>
      e = .returned (.tuple #[(findB d ⟨s, p, false, 0⟩).1.val, .int .i64 (findB d ⟨s, p, false, 0⟩).2]) ∧ Upd [] w w' := by
  have e0 := three_lk w #[.string (txt (textL p))] #[.int .i64 0, .string ⟨#[]⟩, .bool false, .int .u64 0] #[.int .i64 s, .string (txt (textL p)), .bool false, .int .u64 0] 40 42 42
  have H1 := hd (fun W (hu : Upd [] w W) => lfind_any ⟨s, p, false, 0⟩ d.held vh W (row_lks (h.later hu).held))
  have H2 := hd (fun W (hu : Upd [] w W) => lfind_any ⟨s, p, false, 0⟩ d.waits vw W (row_lks (h.later hu).waits))
  have HF := hd (show findB d ⟨s, p, false, 0⟩ = if idxP (sameB ⟨s, p, false, 0⟩) d.held < 0 then
    if idxP (sameB ⟨s, p, false, 0⟩) d.waits < 0 then (zeroK, -1) else (d.waits.getD (idxP (sameB ⟨s, p, false, 0⟩) d.waits).toNat zeroK, idxP (sameB ⟨s, p, false, 0⟩) d.waits + 1)
    else (d.held.getD (idxP (sameB ⟨s, p, false, 0⟩) d.held).toNat zeroK, 0) from rfl)
  have C1 := idxP_cases (sameB ⟨s, p, false, 0⟩) d.held
  have C2 := idxP_cases (sameB ⟨s, p, false, 0⟩) d.waits
  obtain ⟨F, hF⟩ : ∃ F, findB d ⟨s, p, false, 0⟩ = F := ⟨_, rfl⟩
  rw [hF] at HF ⊢
  clear hF
  generalize idxP (sameB ⟨s, p, false, 0⟩) d.held = i1 at *
  generalize idxP (sameB ⟨s, p, false, 0⟩) d.waits = i2 at *
  have HC1 := hd C1
  have HC2 := hd C2
  clear C1 C2
  unfold LkS.val at H1 H2
  simp only at H1 H2
  generalize textL p = tx at *
  have hb := h.blk
  simp only [BkS.cells] at hb
  have HH := hd (fun W (hu : Upd [] w W) => row_lks (h.later hu).held)
  have HW := hd (fun W (hu : Upd [] w W) => row_lks (h.later hu).waits)
  obtain ⟨a1, n1, rfl, hn1, hm1, -⟩ := own_open h.held
  obtain ⟨a2, n2, rfl, hn2, hm2, -⟩ := own_open h.waits
  clear h
  go_enter Tryz.func12, Tryz.ntmps12
  go_upto_region 2 with fail
  obtain ⟨W, k1, k2, k3, hk1, hk2, hk3, hW, hu, hb1, hb2, hb3⟩ := e0
  rw [hW, hk1, hk2, hk3]
  have HK2 := hd (show w.heap.size ≤ k2 by omega)
  have HU := hd hu
  have hlt : k < W.heap.size := by have := hb.lt; have := hu.size; omega
  have hc := (hb.upd hu (by simp)).cell
  have hc3 := hb3.cell
  have HB2 := hd hb2
  have HKS := hd (show ∀ W', Upd [] W W' → ((∀ o', W'.cell? ⟨k, o', none⟩ = #[.slice a1 d.held.length n1, .slice a2 d.waits.length n2, .int .u64 d.last][o']?) ∧ (∀ o', W'.cell? ⟨k3, o', none⟩ = #[.int .i64 s, .string (txt tx), .bool false, .int .u64 0][o']?)) from fun W' h => ⟨((hb.upd hu (by simp)).upd h (by simp)).cell, (hb3.upd h (by simp)).cell⟩)
  clear hW hk1 hk2 hk3 hu hb hb1 hb2 hb3
  go_region_held3 (fun W' => (∀ o', W'.cell? ⟨k, o', none⟩ = #[.slice a1 d.held.length n1, .slice a2 d.waits.length n2, .int .u64 d.last][o']?) ∧ (∀ o', W'.cell? ⟨k3, o', none⟩ = #[.int .i64 s, .string (txt tx), .bool false, .int .u64 0][o']?))
    ((refine HKS.out _ ?_; repeat (first | with_reducible exact Upd.refl _ _ | with_reducible exact hup1 | with_reducible refine Upd.drew ?_ | with_reducible refine Upd.alloc ?_ _)))
    (first
    | ((with_reducible refine (H1.out _ (HU.out.trans ((Upd.refl [] W).drew))).mono ?_); rintro e w1 ⟨rfl, hu1⟩; have hup1 : Upd [] W w1 := ((Upd.refl [] W).drew).trans hu1)
    | fail "no arm")
  all_goals
    obtain ⟨hq1, hq2⟩ := HKS.out w1 hup1
    have hlt1 : k < w1.heap.size := by have := hup1.size; omega
    have HB3 := hd (HB2.out.upd hup1 (by simp))
    have hbz := HB3.out.frozen
    have hbc := HB3.out.cell
    have hl2' := HB3.out.lt
    have HUP := hd (HU.out.trans hup1)
    clear hc hc3 hu1
    by_cases h0 : i1 < 0
    · have h0' : ¬ (0 : Int) ≤ i1 := by omega
      have HF1 := hd (HF.out.trans (if_pos h0))
      clear h0
      go_upto_region 5 with fail
      go_region_held3 (fun W' => (∀ o', W'.cell? ⟨k, o', none⟩ = #[.slice a1 d.held.length n1, .slice a2 d.waits.length n2, .int .u64 d.last][o']?) ∧ (∀ o', W'.cell? ⟨k3, o', none⟩ = #[.int .i64 s, .string (txt tx), .bool false, .int .u64 0][o']?))
        ((refine HKS.out _ ?_; repeat (first | with_reducible exact Upd.refl _ _ | with_reducible exact hup2 | with_reducible exact hup1 | with_reducible refine Upd.drew ?_ | with_reducible refine Upd.alloc ?_ _)))
        (first
        | ((with_reducible refine (H2.out _ (HUP.out.trans ((Upd.refl [] w1).drew))).mono ?_); rintro e w2 ⟨rfl, hu2⟩; have hup2 : Upd [] W w2 := (hup1.drew).trans hu2)
        | fail "no arm")
      all_goals
        obtain ⟨hr1, hr2⟩ := HKS.out w2 hup2
        have hlt2 : k < w2.heap.size := by have := hup2.size; omega
        have HB4 := hd (HB2.out.upd hup2 (by simp))
        have hbz4 := HB4.out.frozen
        have hbc4 := HB4.out.cell
        have hl4' := HB4.out.lt
        have HUP2 := hd (HU.out.trans hup2)
        clear hq1 hq2 hbz hbc
        by_cases h2 : i2 < 0
        · have h2' : ¬ (0 : Int) ≤ i2 := by omega
          have HF2 := hd (HF1.out.trans (if_pos h2))
          clear h2
          go_wp2_with fail
          refine bodyPost_ret (res_lk2 _ 6 7 rfl _ _ k2 zeroK (.int .i64 (-1)) rfl rfl (put4 HB4.out zeroK)) rfl ?_
          exact ⟨by rw [HF2.out], up4 HUP2.out (.inr HK2.out) _ _ _ _⟩
        · have h2' : (0 : Int) ≤ i2 := by omega
          have HF2 := hd (HF1.out.trans (if_neg h2))
          obtain ⟨t, ht, rfl⟩ : ∃ (t : Nat), t < d.waits.length ∧ i2 = t := by
            rcases HC2.out with ⟨h, _⟩ | ⟨t, ht, h, _⟩
            · omega
            · exact ⟨t, ht, h⟩
          have ht' : (t : Int) < (d.waits.length : Int) := by omega
          have htw : (t : Int) + 1 ≤ 9223372036854775807 := by omega
          obtain ⟨g, rfl, hgl, c0, c1, c2, c3⟩ := lks_get (HW.out _ HUP2.out) (Upd.refl _ _) t ht
          have HG := hd (show d.waits.getD (t : Int).toNat zeroK = d.waits[t] by rw [Int.toNat_natCast, List.getD_eq_getElem?_getD, List.getElem?_eq_getElem ht]; rfl)
          rw [HG.out] at HF2
          generalize d.waits[t] = y at *
          clear h2
          go_wp2_with fail
          refine bodyPost_ret (res_lk2 _ 6 7 rfl _ _ k2 y (.int .i64 ((t : Int) + 1)) rfl rfl (put4 HB4.out y)) rfl ?_
          exact ⟨by rw [HF2.out], up4 HUP2.out (.inr HK2.out) _ _ _ _⟩
    · have h0' : (0 : Int) ≤ i1 := by omega
      have HF1 := hd (HF.out.trans (if_neg h0))
      obtain ⟨t, ht, rfl⟩ : ∃ (t : Nat), t < d.held.length ∧ i1 = t := by
        rcases HC1.out with ⟨h, _⟩ | ⟨t, ht, h, _⟩
        · omega
        · exact ⟨t, ht, h⟩
      have ht' : (t : Int) < (d.held.length : Int) := by omega
      obtain ⟨g, rfl, hgl, c0, c1, c2, c3⟩ := lks_get (HH.out _ HUP.out) (Upd.refl _ _) t ht
      have HG := hd (show d.held.getD (t : Int).toNat zeroK = d.held[t] by rw [Int.toNat_natCast, List.getD_eq_getElem?_getD, List.getElem?_eq_getElem ht]; rfl)
      rw [HG.out] at HF1
      generalize d.held[t] = y at *
      clear h0
      go_wp2_with fail
      refine bodyPost_ret (res_lk2 _ 6 7 rfl _ _ k2 y (.int .i64 0) rfl rfl (put4 HB3.out y)) rfl ?_
      exact ⟨by rw [HF1.out], up4 HUP.out (.inr HK2.out) _ _ _ _⟩

set_option maxHeartbeats 2000000 in
theorem bclone_any {B k : Nat} {vh vw : Value} {d : BkS} (w : World) (h : BookAt B w k vh vw d) (hl1 : d.held.length ≤ 1024) (hl2 : d.waits.length ≤ 1024) :
    Calls Tryz.prog 8 #[.pointer (some ⟨k, 0, none⟩)] w fun e w' =>
      ∃ k' vh' vw', e = .returned (.pointer (some ⟨k', 0, none⟩)) ∧ Upd [] w w' ∧ BookAt w.heap.size w' k' vh' vw' d ∧ w.heap.size ≤ k' := by
  have H1 := hd (fun W (hu : Upd [] w W) => lclone_any vh d.held W (row_lks (h.later hu).held) hl1)
  have H2 := hd (fun W (hu : Upd [] w W) => lclone_any vw d.waits W (row_lks (h.later hu).waits) hl2)
  have hb := h.blk
  simp only [BkS.cells] at hb
  obtain ⟨a1, n1, rfl, hn1, hm1, -⟩ := own_open h.held
  obtain ⟨a2, n2, rfl, hn2, hm2, -⟩ := own_open h.waits
  have hlt := hb.lt
  have hc := hb.cell
  have HKS := hd (show ∀ W', Upd [] w W' → (∀ o', W'.cell? ⟨k, o', none⟩ = #[.slice a1 d.held.length n1, .slice a2 d.waits.length n2, .int .u64 d.last][o']?) from fun W' h => (hb.upd h (by simp)).cell)
  clear h hb
  go_enter Tryz.func8, Tryz.ntmps8
  go_upto_region 1 with fail
  go_region_held3 (fun W' => (∀ o', W'.cell? ⟨k, o', none⟩ = #[.slice a1 d.held.length n1, .slice a2 d.waits.length n2, .int .u64 d.last][o']?))
    ((refine HKS.out _ ?_; repeat (first | with_reducible exact Upd.refl _ _ | with_reducible exact hup2 | with_reducible exact hup1 | with_reducible refine Upd.drew ?_ | with_reducible refine Upd.alloc ?_ _)))
    (first
    | ((with_reducible refine (H1.out _ ((Upd.refl [] w).drew)).mono ?_); rintro e w1 ⟨v1, rfl, hu1, hv1⟩; have HV1 := hd hv1; obtain ⟨b1, m1, rfl, -⟩ := own_open hv1; have hup1 : Upd [] w w1 := ((Upd.refl [] w).drew).trans hu1)
    | ((with_reducible refine (H2.out _ hup1).mono ?_); rintro e w2 ⟨v2, rfl, hu2, hv2⟩; have HV2 := hd hv2; obtain ⟨b2, m2, rfl, -⟩ := own_open hv2; have hup2 : Upd [] w w2 := hup1.trans hu2)
    | fail "no arm")
  all_goals
    go_wp2_with fail
    go_ret
    refine ⟨_, _, _, rfl, hup2.alloc _, ⟨Blk.new' _ _ _ (by simp), own_mono (own_upd (L := []) HV1.out (hu2.alloc _) (by simp)) (Nat.le_refl _), own_mono (own_upd (L := []) HV2.out ((Upd.refl _ _).alloc _) (by simp)) (by have := hup1.size; simpa using this), ?_⟩, by have := hup2.size; simpa using this⟩
    intro g hg hg'
    have h1 := (own_ge HV1.out g hg).2
    have h2 := (own_ge HV2.out g hg').1
    omega
end Go.Proofs.YtpniggmdokkkcaaGreatDoor

/-
  Laws of rows whose elements take four cells: copy, cells set one by one, what a row then is. No condition beyond those that each theorem states.
-/
set_option linter.unusedVariables false
set_option linter.unusedSimpArgs false
set_option maxRecDepth 100000
namespace Go.Proofs.YtpniggmdokkkcaaGreatDoor
open Go.RowKit

theorem run_copy_many {P : Program} (w : World) (dT sT ty elem : TypeId) (sz b o dLen dCap : Nat) (a : Addr) (sLen sCap : Nat) (cs : List Value)
    (hu : P.underlying dT = some (.slice elem)) (hs : (P.info? elem).map (·.size) = some sz) (hn : cs.length = Nat.min sLen dLen * sz)
    (hsrc : ∀ j v, cs[j]? = some v → w.cell? (a.add j) = some v) (hc : ∀ j, j < cs.length → (w.cell? ⟨b, o + j, none⟩).isSome = true) (hf : ∀ j, j < cs.length → w.frozen? ⟨b, o + j, none⟩ = false) (h1 : ∀ v ∈ cs, v.oneCell' = true) :
    (Builtin.copy_ #[dT, sT] ty #[.slice (some ⟨b, o, none⟩) dLen dCap, .slice (some a) sLen sCap]).run P w = .ok (goInt (Nat.min sLen dLen)) (w.setCells b o cs) := by
  have hl := run_loadCells_list (P := P) w a cs hsrc
  have hst := run_storeCells_cells (P := P) b o cs 0 w (by simpa using hc) (by simpa using hf) h1
  cases hq : P.info? elem with
  | none => simp [hq] at hs
  | some i =>
    have hi : i.size = sz := by simpa [hq] using hs
    simp [Builtin.copy_, run_underlying hu, Builtin.lenOf, Builtin.firstCells, sizeOf, typeInfo, hq, hi, ← hn, hl, hst]

/-- THE OPERATION 'copy(d, s)' FOR THE WALK, where its run is known by an equation (turned from the kit's law for the library's Insert). -/
theorem wpList_copy_run {P : Program} (w : World) {ops : Array Oper} {rest : List Oper} {o : Oper} {a : Act} {Q : Exit → Act → World → Prop} (hgd : o.guard = none) (d s : Operand) (t t' : TypeId)
    (ho : o.op = .call { callee := .builtin .copy, args := #[d, s], argTypes := #[t, t'] }) (v u : Value) (hd : a.eval d = v) (hs : a.eval s = u) {v' : Value} {w' : World}
    (hr : (Builtin.copy_ #[t, t'] o.type #[v, u]).run P w = .ok v' w') (h : wpList P ops Q rest (a.put o.dst v') w') : wpList P ops Q (o :: rest) a w :=
  wpList_plain hgd fun K hK => by
    unfold Oper.wp execOp
    simp only [ho, resolve, invoke, builtin, Sem.run_bind, Sem.run_pure, Result.andThen_ok, List.map_toArray, List.map_cons, List.map_nil, hd, hs, hr]
    exact hK _ _ h

theorem step_copy_run {P : Program} {ops : Array Oper} {o : Oper} {a : Act} {w : World} {K : Act → World → Prop} {Q : Exit → Act → World → Prop} {E : Prop}
    (hg : o.guard = none) (d x : Operand) (dT sT : TypeId) (hop : o.op = Op.call { callee := Callee.builtin Builtin.copy, args := #[d, x], argTypes := #[dT, sT] })
    (v u : Value) (hd : a.eval d = v) (hx : a.eval x = u) {v' : Value} {w' : World} (hr : (Builtin.copy_ #[dT, sT] o.type #[v, u]).run P w = .ok v' w') (hK : K (a.put o.dst v') w') :
    if Region.wanted o (yielded ops a.tmps) = true then Oper.wp P o a w K Q else E := by
  have hw : Region.wanted o (yielded ops a.tmps) = true := by simp [Region.wanted, hg]
  rw [if_pos hw]
  unfold Oper.wp
  simp [execOp, hop, resolve, invoke, builtin, hd, hx, hr, Result.andThen]
  exact hK

theorem setCells_blk {T b : Nat} : ∀ (vs : List Value) (o : Nat) (w : World) (c : Array Value), Blk w b c T → ∃ c', Blk (w.setCells b o vs) b c' T ∧ c'.size = c.size
  | [], _, w, c, h => ⟨c, h, rfl⟩
  | v :: r, o, w, c, h => by
    obtain ⟨c', h1, h2⟩ := setCells_blk r (o + 1) (w.setCell ⟨b, o, none⟩ v) _ (h.set o v)
    exact ⟨c', h1, by simpa using h2⟩
theorem setCells_upd {b : Nat} : ∀ (vs : List Value) (o : Nat) (w : World), Upd [b] w (w.setCells b o vs)
  | [], _, w => Upd.refl _ _
  | v :: r, o, w => ((Upd.refl _ _).setCell (p := ⟨b, o, none⟩) (by simp) v).trans (setCells_upd r (o + 1) _)
theorem setCells_drew (b : Nat) : ∀ (vs : List Value) (o : Nat) (w : World), (w.setCells b o vs).drew = w.drew.setCells b o vs
  | [], _, _ => rfl
  | v :: r, o, w => by rw [World.setCells, World.setCells, setCells_drew b r]; rfl
theorem isSome_setCells' (b : Nat) (vs : List Value) (o : Nat) (w : World) (h : ∀ j, j < vs.length → (w.cell? ⟨b, o + j, none⟩).isSome = true) (k : Nat) (hk : (w.cell? ⟨b, k, none⟩).isSome = true) : ((w.setCells b o vs).cell? ⟨b, k, none⟩).isSome = true := by
  by_cases hin : o ≤ k ∧ k < o + vs.length
  · have := World.cell?_setCells_in b vs o w h (k - o) (by omega)
    rw [show o + (k - o) = k by omega] at this
    rw [this]; rfl
  · rw [World.cell?_setCells_out b vs o w ⟨b, k, none⟩ (fun _ _ => by show k < o ∨ o + vs.length ≤ k; omega)]
    exact hk

/-- A row by its cells. -/
theorem own_of_cells {w : World} {B T sz g n cap : Nat} {c : Array Value} {xs : List Value} (hb : Blk w g c T) (hB : B ≤ g) (hnc : n ≤ cap) (hcm : cap ≤ maxLen) (hcs : c.size = cap * sz) (hl : xs.length = n * sz)
    (hx : ∀ j, j < n * sz → w.cell? ⟨g, j, none⟩ = xs[j]?) : w.ownsRow B T sz (.slice (some ⟨g, 0, none⟩) n cap) n xs := by
  refine ⟨hl, .inr ⟨g, cap, c, rfl, hB, hb, hnc, hcm, hcs, ?_⟩⟩
  apply List.ext_getElem?
  intro j
  by_cases hj : j < n * sz
  · rw [List.getElem?_take, if_pos hj, ← hx j hj, Blk.cell hb j]
    simp
  · rw [List.getElem?_eq_none (by simp; omega), List.getElem?_eq_none (by omega)]

/-- An entry put in at its place: the cells. -/
theorem lkCells_ins (l : List LkS) (x : LkS) (i : Nat) (hi : i ≤ l.length) : lkCells (l.take i ++ x :: l.drop i) = (lkCells l).take (i * 4) ++ (x.cells ++ (lkCells l).drop (i * 4)) := by
  have e : lkCells (l.take i ++ x :: l.drop i) = lkCells (l.take i) ++ (x.cells ++ lkCells (l.drop i)) := by
    simp [lkCells, List.flatMap_append, List.flatMap_cons]
  have h : (lkCells (l.take i)).length = i * 4 := by rw [lkCells_length, List.length_take, Nat.min_eq_left hi]
  have h2 : lkCells l = lkCells (l.take i) ++ lkCells (l.drop i) := by
    have : lkCells (l.take i ++ l.drop i) = lkCells (l.take i) ++ lkCells (l.drop i) := List.flatMap_append
    rw [← this, List.take_append_drop]
  rw [e, h2, ← h, List.take_left, List.drop_left]
end Go.Proofs.YtpniggmdokkkcaaGreatDoor

/-
  slices.Insert of one entry, walked: at the end; in the middle, in place; in the middle, into a new row. Conditions: those that each theorem states.
-/
set_option linter.unusedVariables false
set_option linter.unusedSimpArgs false
set_option maxRecDepth 100000
namespace Go.Proofs.YtpniggmdokkkcaaGreatDoor
open Go.RowKit Go.Lib

set_option maxHeartbeats 4000000 in
theorem ins_room (g k n cap i : Nat) (cs vs : List Value) (w : World) (hi : i < n) (hroom : n + 1 ≤ cap) (hcap : cap ≤ 9223372036854775807) (hkg : k ≠ g)
    (hcl : cs.length = n * 4) (hvl : vs.length = 4) (hcs : ∀ j v, cs[j]? = some v → w.cell? ⟨g, j, none⟩ = some v)
    (hsp : ∀ j, j < cap * 4 → (w.cell? ⟨g, j, none⟩).isSome = true) (hfz : ∀ j, w.frozen? ⟨g, j, none⟩ = false)
    (hvs : ∀ j v, vs[j]? = some v → w.cell? ⟨k, j, none⟩ = some v) (h1c : ∀ v ∈ cs, v.oneCell' = true) (h1v : ∀ v ∈ vs, v.oneCell' = true)
    (kA kB : Nat) (hsa : w.shape? k = some (42, kA)) (hsb : w.shape? g = some (42, kB)) (hkB : kB ≠ 0) (hfk : ∀ j, w.frozen? ⟨k, j, none⟩ = false) :
    Calls Tryz.prog 63 #[.slice (some ⟨g, 0, none⟩) n cap, .int .i64 i, .slice (some ⟨k, 0, none⟩) 1 1] w fun e w' =>
      e = .returned (.slice (some ⟨g, 0, none⟩) (n + 1) cap) ∧ w' = (w.drew.setCells g ((i + 1) * 4) (cs.drop (i * 4))).setCells g (i * 4) vs := by
  have hsz : (Tryz.prog.info? 42).map (·.size) = some 4 := by kernel_rfl
  have hsz' : ∀ w, (Go.sizeOf 42).run Tryz.prog w = .ok 4 w := by
    intro w
    obtain ⟨i0, hinf, hz0, hz1, hz2⟩ := info_parts Tryz.infoLk
    simp [sizeOf, typeInfo, hinf, hz1]
  have hov : ∀ lb cb, (callFunc 76 #[.slice (some ⟨k, 0, none⟩) 1 1, .slice (some ⟨g, (i + 1) * 4, none⟩) lb cb]).run Tryz.prog w = .ok (.value (.bool false)) w := fun lb cb => by
    rw [run_callFunc_extern Tryz.func76 (by kernel_rfl) (by kernel_rfl) (by kernel_rfl) (e := Extern.SlicesOverlaps.overlaps #[37, 37] #[4]) (by kernel_rfl),
      Lib.run_overlaps_apart w 37 4 42 Tryz.underlying37 4 hsz' ⟨k, 0, none⟩ ⟨g, (i + 1) * 4, none⟩ 1 1 lb cb hkg 42 42 kA kB hsa hsb hkB (hfk 0) (hfk kA)]
    rfl
  have hdl : (cs.drop (i * 4)).length = (n - i) * 4 := by rw [List.length_drop, hcl]; omega
  have hcp1 : ∀ ty dc sc, (Builtin.copy_ #[37, 37] ty #[.slice (some ⟨g, (i + 1) * 4, none⟩) (n - i) dc, .slice (some ⟨g, i * 4, none⟩) (n + 1 - i) sc]).run Tryz.prog w.drew = .ok (goInt (Nat.min (n + 1 - i) (n - i))) (w.drew.setCells g ((i + 1) * 4) (cs.drop (i * 4))) := fun ty dc sc =>
    run_copy_many w.drew _ _ ty 42 4 g ((i + 1) * 4) (n - i) dc ⟨g, i * 4, none⟩ (n + 1 - i) sc (cs.drop (i * 4)) Tryz.underlying37 hsz (by rw [hdl]; simp only [Nat.min_def]; split <;> omega)
      (fun j v hj => by rw [Addr.add_lit]; exact hcs (i * 4 + j) v (by rwa [List.getElem?_drop] at hj))
      (fun j hj => hsp _ (by omega)) (fun j hj => hfz _) (fun v hv => h1c v (List.mem_of_mem_drop hv))
  obtain ⟨W1, hW1⟩ : ∃ W1, W1 = w.drew.setCells g ((i + 1) * 4) (cs.drop (i * 4)) := ⟨_, rfl⟩
  have hsp1 : ∀ q, q < cap * 4 → (W1.cell? ⟨g, q, none⟩).isSome = true := fun q hq => by
    rw [hW1]
    exact isSome_setCells' g (cs.drop (i * 4)) ((i + 1) * 4) w.drew (fun j hj => hsp _ (by rw [hdl] at hj; omega)) _ (hsp q hq)
  have hcp2 : ∀ (W : World), (∀ x, W.cell? x = W1.cell? x) → (∀ x, W.frozen? x = W1.frozen? x) → ∀ ty dc, (Builtin.copy_ #[37, 37] ty #[.slice (some ⟨g, i * 4, none⟩) (n + 1 - i) dc, .slice (some ⟨k, 0, none⟩) 1 1]).run Tryz.prog W = .ok (goInt (Nat.min 1 (n + 1 - i))) (W.setCells g (i * 4) vs) := fun W hWc hWf ty dc =>
    run_copy_many W _ _ ty 42 4 g (i * 4) (n + 1 - i) dc ⟨k, 0, none⟩ 1 1 vs Tryz.underlying37 hsz (by rw [hvl]; simp only [Nat.min_def]; split <;> omega)
      (fun j v hj => by
        rw [Addr.add_lit, hWc, hW1, World.cell?_setCells_out g _ _ _ _ (fun h _ => absurd h hkg), Nat.zero_add]
        exact hvs j v hj)
      (fun j hj => by rw [hWc]; exact hsp1 _ (by omega)) (fun j hj => by rw [hWf, hW1, World.frozen?_setCells]; exact hfz _) h1v
  rw [← hW1] at hcp1
  have HE := hd hW1
  have hw1 : IntKind.i64.wrap ((i : Int) + 1) = (i : Int) + 1 := by rw [IntKind.wrap_i64]; omega
  have hw2 : IntKind.i64.wrap ((n : Int) + 1) = (n : Int) + 1 := by rw [IntKind.wrap_i64]; omega
  have hb1 : (0 : Int) ≤ (i : Int) + 1 := by omega
  have hin : i ≤ n := by omega
  have htn : ((i : Int) + 1).toNat = i + 1 := by omega
  have htn2 : ((n : Int) + 1).toNat = n + 1 := by omega
  have hb2 : ¬ (cap = i + 1) := by omega
  have hb3 : (i : Int) ≤ (n : Int) + 1 := by omega
  have hb4 : ¬ (cap = i) := by omega
  have hb5 : ¬ ((i : Int) = (n : Int)) := by omega
  clear hW1 hcs hsp hvs hsp1
  go_enter Tryz.func63, Tryz.ntmps63
  go_wp2_with (simp only [hov])
  go_region_law (refine step_copy_run rfl _ _ 37 37 rfl _ _ (by simp [Act.eval, Act.put]) (by simp [Act.eval, Act.put]) (hcp1 _ _ _) ?_)
  go_wp2_with (at_builtin; refine wpList_copy_run _ rfl _ _ 37 37 rfl _ _ rfl rfl (hcp2 _ (fun _ => rfl) (fun _ => rfl) _ _) ?_)
  go_ret
  exact ⟨rfl, by rw [HE.out]⟩
end Go.Proofs.YtpniggmdokkkcaaGreatDoor
