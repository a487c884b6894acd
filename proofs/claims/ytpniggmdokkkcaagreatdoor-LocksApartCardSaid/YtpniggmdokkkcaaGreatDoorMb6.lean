/-
  Locks as plain data and in memory; slices.IndexFunc, ContainsFunc at locks, whatever the predicate; cmp.Or, cmp.Compare at int. Conditions: those that each theorem states.
-/
import Derived.Test.YtpniggmdokkkcaaGreatDoorMb5
import Derived.BigRegion
import Derived.Deep.RegionHeld3
set_option linter.unusedVariables false
set_option linter.unusedSimpArgs false
set_option maxRecDepth 100000
namespace Go.Proofs.YtpniggmdokkkcaaGreatDoor
open Go.RowKit

/-- A lock: its path as parts. -/
structure LkS where
  ses : Int
  path : List (List UInt8)
  excl : Bool
  tok : Int
deriving DecidableEq
def LkS.cells (x : LkS) : List Value := [.int .i64 x.ses, .string (txt (textL x.path)), .bool x.excl, .int .u64 x.tok]
def LkS.val (x : LkS) : Value := .agg #[.int .i64 x.ses, .string (txt (textL x.path)), .bool x.excl, .int .u64 x.tok]
def lkCells (l : List LkS) : List Value := l.flatMap LkS.cells
theorem lkCells_length (l : List LkS) : (lkCells l).length = l.length * 4 := by
  induction l with
  | nil => rfl
  | cons a t ih => simp only [lkCells, List.flatMap_cons, List.length_append, LkS.cells, List.length_cons, List.length_nil] at *; omega
theorem lkCells_get (l : List LkS) (i : Nat) (hi : i < l.length) (j : Nat) (hj : j < 4) : (lkCells l)[i * 4 + j]? = (l[i]).cells[j]? := by
  induction l generalizing i with
  | nil => simp at hi
  | cons a t ih =>
    have e : lkCells (a :: t) = a.cells ++ lkCells t := rfl
    rw [e]
    cases i with
    | zero =>
      rw [List.getElem?_append_left (by simp [LkS.cells]; omega)]
      simp
    | succ i =>
      rw [List.getElem?_append_right (by simp [LkS.cells]; omega)]
      have := ih i (by simpa using hi)
      rw [show (i + 1) * 4 + j - a.cells.length = i * 4 + j by simp [LkS.cells]; omega]
      rw [this]
      simp
/-- A list of locks in a row of its own. -/
abbrev LkRow (B : Nat) (w : World) (v : Value) (l : List LkS) : Prop := w.ownsRow B 42 4 v l.length (lkCells l)
/-- A slice of locks, to be read. -/
def LksAt (w : World) (v : Value) (l : List LkS) : Prop :=
  ∃ (a : Option Addr) (c : Nat), v = .slice a l.length c ∧ l.length ≤ c ∧ c ≤ 9223372036854775807 ∧ (0 < l.length → ∃ k, a = some ⟨k, 0, none⟩ ∧ k < w.heap.size ∧ ∀ i (h : i < l.length), ∀ j, j < 4 → w.cell? ⟨k, i * 4 + j, none⟩ = (l[i]).cells[j]?)
theorem LksAt.upd {L : List Nat} {w w' : World} {v : Value} {l : List LkS} (h : LksAt w v l) (hu : Upd L w w') (hL : ∀ g, v.ownBlock = some g → g ∉ L) : LksAt w' v l := by
  obtain ⟨a, c, h1, h2, h3, h4⟩ := h
  refine ⟨a, c, h1, h2, h3, fun h0 => ?_⟩
  obtain ⟨k, e, hk, hc⟩ := h4 h0
  refine ⟨k, e, Nat.lt_of_lt_of_le hk hu.size, fun i hi j hj => ?_⟩
  rw [← hc i hi j hj]
  exact World.cell?_of_block (hu.block k hk (hL k (by rw [h1, e]; rfl)))
theorem LksAt.later {w w' : World} {v : Value} {l : List LkS} (h : LksAt w v l) (hu : Upd [] w w') : LksAt w' v l := h.upd hu (by simp)
theorem LksAt.take {w : World} {a : Option Addr} {n c : Nat} {l : List LkS} (h : LksAt w (.slice a n c) l) (m : Nat) (hm : m ≤ l.length) : LksAt w (.slice a m c) (l.take m) := by
  obtain ⟨a', c', h1, h2, h3, h4⟩ := h
  simp only [Value.slice.injEq] at h1
  obtain ⟨rfl, rfl, rfl⟩ := h1
  have hl : (l.take m).length = m := by rw [List.length_take]; omega
  refine ⟨a, c, by rw [hl], by omega, h3, fun h0 => ?_⟩
  obtain ⟨k, e, hk, hc⟩ := h4 (by omega)
  exact ⟨k, e, hk, fun i hi j hj => by rw [hc i (by omega) j hj]; simp⟩
theorem row_lks {B : Nat} {w : World} {v : Value} {l : List LkS} (h : LkRow B w v l) : LksAt w v l := by
  obtain ⟨a, cap, rfl, h1, h2, h3⟩ := own_open h
  refine ⟨a, cap, rfl, h1, by unfold maxLen at h2; omega, fun h0 => ?_⟩
  obtain ⟨g, rfl, hg, hgl, hc, -⟩ := h3 h0
  exact ⟨g, rfl, hgl, fun i hi j hj => by rw [hc _ (by omega)]; exact lkCells_get l i hi j hj⟩
/-- What a lock's four cells hold, in a later world. -/
theorem lks_get {w W : World} {a : Option Addr} {n c : Nat} {l : List LkS} (h : LksAt w (.slice a n c) l) (hu : Upd [] w W) (t : Nat) (ht : t < l.length) :
    ∃ k, a = some ⟨k, 0, none⟩ ∧ k < W.heap.size ∧ W.cell? ⟨k, t * 4, none⟩ = some (.int .i64 l[t].ses) ∧ W.cell? ⟨k, t * 4 + 1, none⟩ = some (.string (txt (textL l[t].path))) ∧ W.cell? ⟨k, t * 4 + 2, none⟩ = some (.bool l[t].excl) ∧ W.cell? ⟨k, t * 4 + 3, none⟩ = some (.int .u64 l[t].tok) := by
  obtain ⟨a', c', h1, h2, h3, h4⟩ := h.later hu
  simp only [Value.slice.injEq] at h1
  obtain ⟨rfl, rfl, rfl⟩ := h1
  obtain ⟨k, rfl, hk, hc⟩ := h4 (by omega)
  exact ⟨k, rfl, hk, hc t ht 0 (by omega), hc t ht 1 (by omega), hc t ht 2 (by omega), hc t ht 3 (by omega)⟩

/-- Where the first one is that is so. -/
def idxP (p : LkS → Bool) : List LkS → Int
  | [] => -1
  | x :: l => if p x then 0 else if idxP p l = -1 then -1 else idxP p l + 1
theorem idxP_hit (p : LkS → Bool) : ∀ (l : List LkS) (t : Nat) (h : t < l.length), (∀ x ∈ l.take t, p x = false) → p l[t] = true → idxP p l = t
  | x :: l, 0, _, _, hp => if_pos hp
  | x :: l, t + 1, h, ha, hp => by
    have h1 : p x = false := ha x (by simp)
    have h2 := idxP_hit p l t (by simpa using h) (fun y hy => ha y (by simp [hy])) (by simpa using hp)
    unfold idxP
    rw [h1, h2]
    simp only [Bool.false_eq_true, if_false]
    rw [if_neg (by omega)]
    omega
theorem idxP_miss (p : LkS → Bool) : ∀ (l : List LkS), (∀ x ∈ l, p x = false) → idxP p l = -1
  | [], _ => rfl
  | x :: l, h => by
    have h1 : p x = false := h x (by simp)
    unfold idxP
    rw [h1, idxP_miss p l (fun y hy => h y (by simp [hy]))]
    rfl
theorem idxP_cases (p : LkS → Bool) (l : List LkS) : (idxP p l = -1 ∧ ∀ x ∈ l, p x = false) ∨ ∃ (t : Nat) (h : t < l.length), idxP p l = t ∧ p l[t] = true ∧ ∀ x ∈ l.take t, p x = false := by
  induction l with
  | nil => exact .inl ⟨rfl, by simp⟩
  | cons x l ih =>
    cases hx : p x with
    | true => exact .inr ⟨0, by simp, by simp [idxP, hx], hx, by simp⟩
    | false =>
      rcases ih with ⟨h1, h2⟩ | ⟨t, h, h1, h2, h3⟩
      · exact .inl ⟨by simp [idxP, hx, h1], fun y hy => (List.mem_cons.1 hy).elim (fun e => e ▸ hx) (h2 y)⟩
      · refine .inr ⟨t + 1, by simpa using h, ?_, by simpa using h2, fun y hy => ?_⟩
        · simp only [idxP, hx, h1]
          rw [if_neg (by decide), if_neg (by omega)]; rfl
        · rw [List.take_succ_cons] at hy
          exact (List.mem_cons.1 hy).elim (fun e => e ▸ hx) (h3 y)
theorem idxP_any (p : LkS → Bool) (l : List LkS) : decide (0 ≤ idxP p l) = l.any p := by
  rcases idxP_cases p l with ⟨h1, h2⟩ | ⟨t, h, h1, h2, h3⟩
  · rw [h1, show l.any p = false from List.any_eq_false.2 (fun x hx => by rw [h2 x hx]; decide)]; rfl
  · rw [h1, show l.any p = true from List.any_eq_true.2 ⟨_, List.getElem_mem h, h2⟩]; simp

/-- What a predicate, a function value, answers at the locks of a list, in whatever later world: only the blocks of L may have turned. -/
def Says (L : List Nat) (F : Nat) (fs cs : Array Value) (p : LkS → Bool) (l : List LkS) (w : World) : Prop :=
  (∀ args W, (callFunc F args).run Tryz.prog W = .ok (.enter F args) W) ∧ ∀ x ∈ l, ∀ W, Upd L w W → Calls Tryz.prog F (fs ++ #[x.val] ++ cs) W fun e w' => e = .returned (.bool (p x)) ∧ Upd [] W w'
theorem Says.later {L : List Nat} {F : Nat} {fs cs : Array Value} {p : LkS → Bool} {l m : List LkS} {w w' : World} (h : Says L F fs cs p l w) (hu : Upd L w w') (hm : ∀ x ∈ m, x ∈ l) : Says L F fs cs p m w' :=
  ⟨h.1, fun x hx W hW => h.2 x (hm x hx) W (hu.trans hW)⟩

set_option maxHeartbeats 4000000 in
theorem idx_any (F : Nat) (fs cs : Array Value) (p : LkS → Bool) (l : List LkS) (v : Value) (w : World) (hv : LksAt w v l) (H : Says [] F fs cs p l w) :
    Calls Tryz.prog 53 #[v, .func (.func F) fs cs] w fun e w' => e = .returned (.int .i64 (idxP p l)) ∧ Upd [] w w' := by
  have HV := hd hv
  have HF := hd H.2
  have eg := H.1
  clear H
  obtain ⟨a, c, rfl, hc, hm, -⟩ := hv
  go_enter Tryz.func53, Tryz.ntmps53
  go_wp2_with fail
  go_loopw [8] (fun c wr => ∃ t : Nat, c = .int .i64 t ∧ t ≤ l.length ∧ (∀ x ∈ l.take t, p x = false) ∧ Upd [] w wr) (fun c _ => l.length - (intOf c).toNat)
  case atStart => exact ⟨0, rfl, by omega, by simp, Upd.refl _ _⟩
  case round =>
    obtain ⟨t, rfl, ht, hall, hu⟩ := hrel
    have HU := hd hu
    have HALL := hd hall
    clear hu hall
    by_cases htn : t < l.length
    · have htn' : (t : Int) < (l.length : Int) := by omega
      obtain ⟨ka, rfl, hka, c0, c1, c2, c3⟩ := lks_get HV.out HU.out t htn
      have HX := hd (HF.out l[t] (List.getElem_mem _) wr HU.out)
      unfold LkS.val at HX
      have HIN := hd (show ∀ y ∈ l.take (t + 1), y ∈ l.take t ∨ y = l[t] by
        intro y hy
        rw [List.take_succ_eq_append_getElem htn] at hy
        rcases List.mem_append.1 hy with h | h
        · exact .inl h
        · exact .inr (List.mem_singleton.1 h))
      have HHIT := hd (fun h => idxP_hit p l t htn HALL.out h)
      generalize l[t] = x at *
      rcases hp : p x with _ | _
      · rw [hp] at HX
        have HP := hd hp
        clear hp HHIT
        go_wp2_with fail
        refine HX.out.mono ?_
        rintro e w1 ⟨rfl, hu1⟩
        go_wp2_with fail
        go_roundw
        case rel => exact ⟨t + 1, by go_num, by omega, fun y hy => (HIN.out y hy).elim (HALL.out y) (fun e => e ▸ HP.out), HU.out.trans hu1⟩
        case measure => simp [intOf]; omega
      · rw [hp] at HX
        have HE := hd (HHIT.out hp)
        clear hp HHIT
        go_wp2_with fail
        refine HX.out.mono ?_
        rintro e w1 ⟨rfl, hu1⟩
        go_wp2_with fail
        go_ret
        exact ⟨by rw [HE.out]; rfl, HU.out.trans hu1⟩
    · have HE := hd (idxP_miss p l (by have h := HALL.out; rw [List.take_of_length_le (by omega)] at h; exact h))
      have htn' : ¬ (t : Int) < (l.length : Int) := by omega
      go_wp2_with fail
      go_ret
      exact ⟨by rw [HE.out]; rfl, HU.out⟩
theorem contains_any (F : Nat) (fs cs : Array Value) (p : LkS → Bool) (l : List LkS) (v : Value) (w : World) (hv : LksAt w v l) (H : Says [] F fs cs p l w) :
    Calls Tryz.prog 58 #[v, .func (.func F) fs cs] w fun e w' => e = .returned (.bool (l.any p)) ∧ Upd [] w w' := by
  have HI := hd (idx_any F fs cs p l v w hv H)
  rw [← idxP_any]
  generalize idxP p l = q at *
  clear H
  obtain ⟨a, c, rfl, -⟩ := hv
  go_enter Tryz.func58, Tryz.ntmps58
  go_wp2_with fail
  refine HI.out.mono ?_
  rintro e w1 ⟨rfl, hu1⟩
  go_wp2_with fail
  go_ret
  exact ⟨by simp, hu1⟩

theorem enters_of2 {f : FuncId} {fn : Func} {c : Code} (hf : Tryz.prog.funcs[f]? = some fn) (hname : (fn.name == "runtime.NumGoroutine") = false) (hb : fn.body = some c) (args : Array Value) (w : World) : (callFunc f args).run Tryz.prog w = .ok (.enter f args) w := by
  have h1 : fn.name ≠ "runtime.NumGoroutine" := by simpa using hname
  simp [callFunc, hf, h1, hb, mark]
/-! ### cmp -/
theorem ret_i {k : IntKind} {a b : Int} (h : a = b) : Ending.returned (.int k a) = .returned (.int k b) := by rw [h]
theorem ret_b {a b : Bool} (h : a = b) : Ending.returned (.bool a) = .returned (.bool b) := by rw [h]
theorem Blk.newd (w : World) {k : Nat} (c : Array Value) (T : TypeId) (hk : k = w.heap.size) : Blk (w.alloc (.cells c T)).drew k c T := (Blk.new' w c T hk).drew
def cmpI (a b : Int) : Int := if a < b then -1 else if b < a then 1 else 0
def orI (a b : Int) : Int := if a = 0 then b else a
theorem nan1_any (a : Int) (w : World) : Calls Tryz.prog 85 #[.int .i64 a] w fun e w' => e = .returned (.bool false) ∧ w = w' := by
  go_enter Tryz.func85, Tryz.ntmps85
  go_wp2
  go_ret
  exact ⟨rfl, rfl⟩
theorem compare1_any (a b : Int) (w : World) : Calls Tryz.prog 74 #[.int .i64 a, .int .i64 b] w fun e w' => e = .returned (.int .i64 (cmpI a b)) ∧ w = w' := by
  go_enter Tryz.func74, Tryz.ntmps74
  have HC := hd (show cmpI a b = if a < b then -1 else if b < a then 1 else 0 from rfl)
  go_wp2_with ((with_reducible refine (nan1_any _ _).mono ?_); rintro e w' ⟨rfl, rfl⟩)
  all_goals
    go_ret
    refine ⟨ret_i ?_, rfl⟩
    rw [HC.out]
    (repeat' split) <;> omega
theorem or_any (a b : Int) (k : Nat) (w : World) (h : Blk w k #[.int .i64 a, .int .i64 b] 3) :
    Calls Tryz.prog 73 #[.slice (some ⟨k, 0, none⟩) 2 2] w fun e w' => e = .returned (.int .i64 (orI a b)) ∧ w = w' := by
  have HO := hd (show orI a b = if a = 0 then b else a from rfl)
  have hc := h.cell
  clear h
  go_enter Tryz.func73, Tryz.ntmps73
  go_wp2
  go_loopw [5, 8] (fun _ i wr => ∃ k : Int, i = .int .i64 k ∧ (k = 0 ∨ k = 1 ∧ a = 0 ∨ k = 2 ∧ a = 0 ∧ b = 0) ∧ w = wr) (fun _ i _ => 2 - (intOf i).toNat)
  case atStart => exact ⟨0, rfl, .inl rfl, rfl⟩
  case round =>
    obtain ⟨k, rfl, hk, rfl⟩ := hrel
    rcases hk with rfl | ⟨rfl, rfl⟩ | ⟨rfl, rfl, rfl⟩
    · by_cases ha : a = 0
      · subst ha
        go_wp2
        refine ⟨⟨1, ?_⟩, ?_⟩ <;> simp [intOf]
      · have ha' : (a == 0) = false := by simpa using ha
        go_wp2
        go_ret
        exact ⟨ret_i (by rw [HO.out]; simp [ha]), rfl⟩
    · by_cases ha : b = 0
      · subst ha
        go_wp2
        refine ⟨⟨2, ?_⟩, ?_⟩ <;> simp [intOf]
      · have ha' : (b == 0) = false := by simpa using ha
        go_wp2
        go_ret
        exact ⟨ret_i (by rw [HO.out]; simp), rfl⟩
    · go_wp2
      go_ret
      exact ⟨ret_i (by rw [HO.out]; simp), rfl⟩
end Go.Proofs.YtpniggmdokkkcaaGreatDoor

/-
  locks: same, conflicts, the closure of Drop; slices.Clone of locks; a book in memory; New, Held, Waits, Last, find, walked. Conditions: those that each theorem states.
-/
set_option linter.unusedVariables false
set_option linter.unusedSimpArgs false
set_option maxRecDepth 100000
namespace Go.Proofs.YtpniggmdokkkcaaGreatDoor
open Go.RowKit

theorem two_lk (w : World) (c d : Array Value) (T : TypeId) : ∃ W k j, w.heap.size = k ∧ k + 1 = j ∧ (w.alloc (.cells c T)).alloc (.cells d T) = W ∧ Upd [] w W ∧ Blk W k c T ∧ Blk W j d T := by
  have hb1 := Blk.new (w.alloc (.cells c T)) d T
  have hb0 := (Blk.new w c T).alloc (.cells d T)
  exact ⟨_, _, _, rfl, rfl, rfl, ((Upd.refl _ _).alloc _).alloc _, hb0, by simpa using hb1⟩
theorem two_lk2 (w : World) (c d : Array Value) (S T : TypeId) : ∃ W k j, w.heap.size = k ∧ k + 1 = j ∧ (w.alloc (.cells c S)).alloc (.cells d T) = W ∧ Upd [] w W ∧ Blk W k c S ∧ Blk W j d T := by
  have hb1 := Blk.new (w.alloc (.cells c S)) d T
  have hb0 := (Blk.new w c S).alloc (.cells d T)
  exact ⟨_, _, _, rfl, rfl, rfl, ((Upd.refl _ _).alloc _).alloc _, hb0, by simpa using hb1⟩
theorem one_lk (w : World) (c : Array Value) (T : TypeId) : ∃ W k, w.heap.size = k ∧ w.alloc (.cells c T) = W ∧ Upd [] w W ∧ Blk W k c T := ⟨_, _, rfl, rfl, (Upd.refl _ _).alloc _, Blk.new _ _ _⟩
def sameB (x y : LkS) : Bool := decide (x.ses = y.ses) && decide (textL x.path = textL y.path)
def conflB (x y : LkS) : Bool := decide (x.ses ≠ y.ses) && ((x.excl || y.excl) && (overT (textL x.path) (textL y.path) || overT (textL y.path) (textL x.path)))

set_option maxHeartbeats 1000000 in
theorem lsame_any (x y : LkS) (w : World) : Calls Tryz.prog 40 #[x.val, y.val] w fun e w' => e = .returned (.bool (sameB x y)) ∧ Upd [] w w' := by
  obtain ⟨s1, p1, x1, t1⟩ := x
  obtain ⟨s2, p2, x2, t2⟩ := y
  unfold LkS.val sameB
  simp only
  generalize textL p1 = a
  generalize textL p2 = b
  have e0 := two_lk w #[.int .i64 s1, .string (txt a), .bool x1, .int .u64 t1] #[.int .i64 s2, .string (txt b), .bool x2, .int .u64 t2] 42
  go_enter Tryz.func40, Tryz.ntmps40
  go_upto_region 1 with fail
  obtain ⟨W, k, j, hk, hj, hW, hu, hb, hb'⟩ := e0
  rw [hW, hk, hj]
  have HU := hd hu
  have hc := hb.cell
  have hc' := hb'.cell
  clear hW hk hj hu hb hb'
  by_cases hs : s1 = s2
  · subst hs
    by_cases hp : a = b
    · subst hp
      have hq : ((txt a).toList == (txt a).toList) = true := by simp
      go_wp2_with fail
      go_ret
      exact ⟨by simp, HU.out⟩
    · have hq : ((txt a).toList == (txt b).toList) = false := by simpa [txt_list] using hp
      have HP := hd hp
      clear hp
      go_wp2_with fail
      go_ret
      exact ⟨by simp [HP.out], HU.out⟩
  · have hs' : (s1 == s2) = false := by simpa using hs
    have HS := hd hs
    clear hs
    go_wp2_with fail
    go_ret
    exact ⟨by simp [HS.out], HU.out⟩

set_option maxHeartbeats 1000000 in
theorem lconf_any (x y : LkS) (w : World) : Calls Tryz.prog 56 #[x.val, y.val] w fun e w' => e = .returned (.bool (conflB x y)) ∧ Upd [] w w' := by
  obtain ⟨s1, p1, x1, t1⟩ := x
  obtain ⟨s2, p2, x2, t2⟩ := y
  unfold LkS.val conflB
  simp only
  generalize textL p1 = a
  generalize textL p2 = b
  have e0 := two_lk w #[.int .i64 s1, .string (txt a), .bool x1, .int .u64 t1] #[.int .i64 s2, .string (txt b), .bool x2, .int .u64 t2] 42
  have HI := hd (pinline_any a b)
  generalize (overT a b || overT b a) = q at *
  go_enter Tryz.func56, Tryz.ntmps56
  go_upto_region 1 with fail
  obtain ⟨W, k, j, hk, hj, hW, hu, hb, hb'⟩ := e0
  rw [hW, hk, hj]
  have HU := hd hu
  have hc := hb.cell
  have hc' := hb'.cell
  clear hW hk hj hu hb hb'
  by_cases hs : s1 = s2
  · subst hs
    go_wp2_with fail
    go_ret
    exact ⟨by simp, HU.out⟩
  · have hs' : (s1 != s2) = true := by simpa using hs
    have HS := hd hs
    clear hs
    rcases x1 with _ | _
    · rcases x2 with _ | _
      · go_wp2_with fail
        go_ret
        exact ⟨by simp, HU.out⟩
      · go_wp2_with fail
        refine (HI.out _).mono ?_
        rintro e w1 ⟨rfl, hu1⟩
        go_wp2_with fail
        go_ret
        exact ⟨by simp [HS.out], HU.out.trans hu1⟩
    · go_wp2_with fail
      refine (HI.out _).mono ?_
      rintro e w1 ⟨rfl, hu1⟩
      go_wp2_with fail
      go_ret
      exact ⟨by simp [HS.out], HU.out.trans hu1⟩

theorem ldrop_any (y : LkS) (s : Int) (c : Nat) (w : World) (hb : Blk w c #[.int .i64 s] 3) : Calls Tryz.prog 50 #[y.val, .pointer (some ⟨c, 0, none⟩)] w fun e w' => e = .returned (.bool (decide (y.ses = s))) ∧ Upd [] w w' := by
  obtain ⟨s2, p2, x2, t2⟩ := y
  unfold LkS.val
  simp only
  generalize textL p2 = b
  have e0 := one_lk w #[.int .i64 s2, .string (txt b), .bool x2, .int .u64 t2] 42
  go_enter Tryz.func50, Tryz.ntmps50
  go_upto_region 1 with fail
  obtain ⟨W, k, hk, hW, hu, hb'⟩ := e0
  rw [hW, hk]
  have HU := hd hu
  have hc := (hb.upd hu (by simp)).cell
  have hc' := hb'.cell
  clear hW hk hu hb hb'
  go_wp2_with fail
  go_ret
  exact ⟨by first | rfl | simp | (congr 2; exact Bool.eq_iff_iff.2 (by simp)), HU.out⟩

theorem Tryz.entersSame (args : Array Value) (W : World) : (callFunc 40 args).run Tryz.prog W = .ok (.enter 40 args) W := enters_of2 Tryz.func40 (by kernel_rfl) rfl args W
theorem Tryz.entersConf (args : Array Value) (W : World) : (callFunc 56 args).run Tryz.prog W = .ok (.enter 56 args) W := enters_of2 Tryz.func56 (by kernel_rfl) rfl args W
theorem Tryz.entersDrop (args : Array Value) (W : World) : (callFunc 50 args).run Tryz.prog W = .ok (.enter 50 args) W := enters_of2 Tryz.func50 (by kernel_rfl) rfl args W
theorem says_same (L : List Nat) (x : LkS) (l : List LkS) (w : World) : Says L 40 #[x.val] #[] (sameB x) l w := ⟨Tryz.entersSame, fun y _ W _ => lsame_any x y W⟩
theorem says_conf (L : List Nat) (x : LkS) (l : List LkS) (w : World) : Says L 56 #[x.val] #[] (conflB x) l w := ⟨Tryz.entersConf, fun y _ W _ => lconf_any x y W⟩
theorem says_drop (L : List Nat) (s : Int) (c : Nat) (l : List LkS) (w : World) (hb : Blk w c #[.int .i64 s] 3) (hc : c ∉ L) : Says L 50 #[] #[.pointer (some ⟨c, 0, none⟩)] (fun y => decide (y.ses = s)) l w := ⟨Tryz.entersDrop, fun y _ W hu => ldrop_any y s c W (hb.upd hu hc)⟩

theorem one_cells (l : List LkS) : ∀ u ∈ lkCells l, u.oneCell' = true := by
  intro u hu
  simp only [lkCells, List.mem_flatMap, LkS.cells] at hu
  obtain ⟨e, _, hu⟩ := hu
  simp at hu
  rcases hu with rfl | rfl | rfl | rfl <;> rfl
theorem Tryz.infoLk : (Tryz.prog.info? 42).map (fun i => (i.zero, i.size, i.bytes)) = some (some (.agg #[.int .i64 0, .string ⟨#[]⟩, .bool false, .int .u64 0]), 4, 40) := by kernel_rfl
theorem lks_cell {w : World} {a : Option Addr} {n c : Nat} {l : List LkS} (h : LksAt w (.slice a n c) l) (h0 : 0 < l.length) : ∃ k, a = some ⟨k, 0, none⟩ ∧ k < w.heap.size ∧ ∀ j, j < l.length * 4 → w.cell? ⟨k, j, none⟩ = (lkCells l)[j]? := by
  obtain ⟨a', c', h1, h2, h3, h4⟩ := h
  simp only [Value.slice.injEq] at h1
  obtain ⟨rfl, rfl, rfl⟩ := h1
  obtain ⟨k, rfl, hk, hc⟩ := h4 h0
  refine ⟨k, rfl, hk, fun j hj => ?_⟩
  have e : j = j / 4 * 4 + j % 4 := by omega
  have hi : j / 4 < l.length := by omega
  rw [e, hc (j / 4) hi (j % 4) (by omega), lkCells_get l (j / 4) hi (j % 4) (by omega)]

set_option maxHeartbeats 1000000 in
theorem lclone_any (v : Value) (ys : List LkS) (w : World) (h : LksAt w v ys) (hl : ys.length ≤ 1024) :
    Calls Tryz.prog 21 #[v] w fun r w' =>
      ∃ v', r = .returned v' ∧ Upd [] w w' ∧ LkRow w.heap.size w' v' ys := by
  obtain ⟨i0, hinf, hz0, hz1, hz2⟩ := info_parts Tryz.infoLk
  have HH := hd h
  obtain ⟨a, cap, rfl, hn, hb, -⟩ := h
  have h1 := hd (one_cells ys)
  have HLL := hd (lkCells_length ys)
  cases a with
  | none =>
    have h0 : ys = [] := by
      rcases Nat.eq_zero_or_pos ys.length with h | h
      · exact List.eq_nil_of_length_eq_zero h
      · obtain ⟨k, e, -⟩ := lks_cell HH.out h
        cases e
    subst h0
    clear HH
    have hel := fun W => Lib.run_eql_slice_nil (P := Tryz.prog) W 37 42 none 0 cap 0 0 Tryz.underlying37
    go_enter Tryz.func21, Tryz.ntmps21
    go_wp2_with fail
    go_ret
    exact ⟨_, rfl, Upd.refl _ _, World.ownsRow_nil _ _ _ _⟩
  | some b =>
    have HB := hd (show ∀ W, Upd [] w W → ∀ j u, (lkCells ys)[j]? = some u → W.cell? (b.add j) = some u by
      intro W hu j u hj
      have hjl : j < ys.length * 4 := by rw [← lkCells_length]; exact (List.getElem?_eq_some_iff.1 hj).1
      obtain ⟨k, e, hk, hc⟩ := lks_cell HH.out (by omega)
      simp only [Option.some.injEq] at e
      subst e
      rw [Addr.add_lit, Nat.zero_add, ← hj, ← hc j hjl]
      exact World.cell?_of_block (hu.block k hk (by simp)))
    clear HH
    have hel := fun W => Lib.run_eql_slice_nil (P := Tryz.prog) W 37 42 (some b) ys.length cap 0 0 Tryz.underlying37
    go_enter Tryz.func21, Tryz.ntmps21
    go_wp2_with (at_builtin; refine wpList_append_own_at _ rfl (.tmp 5) (.tmp 6) 37 rfl w.heap.size 42 i0 _ 4 40 Tryz.underlying37 hinf hz0 hz1 hz2 rfl (by decide) _ 0 [] rfl ?c1 b ys.length cap (lkCells ys) rfl HLL.out ?c2 h1.out ?c4 ?c5 ?c6 ?_)
    case c1 => exact ⟨rfl, .inr ⟨w.heap.size, 0, #[], rfl, by omega, Blk.new _ _ _, by omega, by unfold maxLen; omega, rfl, rfl⟩⟩
    case c2 => exact HB.out _ ((Upd.refl _ _).alloc _)
    case c4 => unfold maxLen; omega
    case c5 => omega
    case c6 => simp
    intro v' w' hown hgr _ hblk
    have hu := Upd.of_grown hgr
    have HU := hd (show Upd [] w w' from ((Upd.refl [] w).alloc _).trans' hu (by simp [Value.ownBlock]))
    have HO := hd hown
    clear hown hgr hblk hu
    go_wp2_with fail
    go_ret
    exact ⟨v', rfl, HU.out, by simpa using HO.out⟩

/-! ### A book -/
structure BkS where
  held : List LkS
  waits : List LkS
  last : Int
deriving DecidableEq
def BkS.cells (d : BkS) (vh vw : Value) : Array Value := #[vh, vw, .int .u64 d.last]
structure BookAt (B : Nat) (w : World) (k : Nat) (vh vw : Value) (d : BkS) : Prop where
  blk : Blk w k (d.cells vh vw) 62
  held : LkRow B w vh d.held
  waits : LkRow B w vw d.waits
  apart : ∀ g, vh.ownBlock = some g → vw.ownBlock ≠ some g
def foot (k : Nat) (vh vw : Value) : List Nat := k :: (vh.ownBlock.toList ++ vw.ownBlock.toList)
theorem mem_foot {k : Nat} {vh vw : Value} {i : Nat} : i ∈ foot k vh vw ↔ i = k ∨ vh.ownBlock = some i ∨ vw.ownBlock = some i := by
  simp [foot, Option.mem_toList]
theorem BookAt.later' {B : Nat} {L : List Nat} {w w' : World} {k : Nat} {vh vw : Value} {d : BkS} (h : BookAt B w k vh vw d) (hu : Upd L w w') (hL : ∀ i ∈ foot k vh vw, i ∉ L) : BookAt B w' k vh vw d :=
  ⟨h.blk.upd hu (hL k (mem_foot.2 (.inl rfl))), own_upd h.held hu (fun g hg => hL g (mem_foot.2 (.inr (.inl hg)))), own_upd h.waits hu (fun g hg => hL g (mem_foot.2 (.inr (.inr hg)))), h.apart⟩
theorem BookAt.later {B : Nat} {w w' : World} {k : Nat} {vh vw : Value} {d : BkS} (h : BookAt B w k vh vw d) (hu : Upd [] w w') : BookAt B w' k vh vw d := h.later' hu (by simp)
theorem BookAt.ne {B : Nat} {w : World} {k : Nat} {vh vw : Value} {d : BkS} (h : BookAt B w k vh vw d) : vh.ownBlock ≠ some k ∧ vw.ownBlock ≠ some k :=
  ⟨fun e => own_ne_any h.held h.blk (by decide) k e rfl, fun e => own_ne_any h.waits h.blk (by decide) k e rfl⟩
theorem BookAt.lt {B : Nat} {w : World} {k : Nat} {vh vw : Value} {d : BkS} (h : BookAt B w k vh vw d) : ∀ i ∈ foot k vh vw, i < w.heap.size := by
  intro i hi
  rcases mem_foot.1 hi with rfl | e | e
  · exact h.blk.lt
  · exact (own_ge h.held i e).2
  · exact (own_ge h.waits i e).2

theorem new_any (last : Int) (w : World) : Calls Tryz.prog 7 #[.int .u64 last] w fun e w' =>
    e = .returned (.pointer (some ⟨w.heap.size, 0, none⟩)) ∧ Upd [] w w' ∧ BookAt w.heap.size w' w.heap.size (.slice none 0 0) (.slice none 0 0) ⟨[], [], last⟩ := by
  go_enter Tryz.func7, Tryz.ntmps7
  go_wp2_with fail
  go_ret
  exact ⟨rfl, (Upd.refl _ _).alloc _, ⟨Blk.new _ _ _, World.ownsRow_nil _ _ _ _, World.ownsRow_nil _ _ _ _, by simp [Value.ownBlock]⟩⟩
theorem held_any {B k : Nat} {vh vw : Value} {d : BkS} (w : World) (h : BookAt B w k vh vw d) (hl : d.held.length ≤ 1024) :
    Calls Tryz.prog 11 #[.pointer (some ⟨k, 0, none⟩)] w fun r w' => ∃ v', r = .returned v' ∧ Upd [] w w' ∧ LkRow w.heap.size w' v' d.held := by
  have hc := h.blk.cell
  have hlt := h.blk.lt
  have H := hd h
  simp only [BkS.cells] at hc
  clear h
  go_enter Tryz.func11, Tryz.ntmps11
  go_wp2_with ((with_reducible refine (lclone_any vh d.held _ (row_lks H.out.held) hl).mono ?_); rintro e w' ⟨v', rfl, hu, ho⟩; have HU := hd hu; have HO := hd ho; clear hu ho)
  go_ret
  exact ⟨v', rfl, HU.out, HO.out⟩
theorem waits_any {B k : Nat} {vh vw : Value} {d : BkS} (w : World) (h : BookAt B w k vh vw d) (hl : d.waits.length ≤ 1024) :
    Calls Tryz.prog 13 #[.pointer (some ⟨k, 0, none⟩)] w fun r w' => ∃ v', r = .returned v' ∧ Upd [] w w' ∧ LkRow w.heap.size w' v' d.waits := by
  have hc := h.blk.cell
  have hlt := h.blk.lt
  have H := hd h
  simp only [BkS.cells] at hc
  clear h
  go_enter Tryz.func13, Tryz.ntmps13
  go_wp2_with ((with_reducible refine (lclone_any vw d.waits _ (row_lks H.out.waits) hl).mono ?_); rintro e w' ⟨v', rfl, hu, ho⟩; have HU := hd hu; have HO := hd ho; clear hu ho)
  go_ret
  exact ⟨v', rfl, HU.out, HO.out⟩
theorem last_any {B k : Nat} {vh vw : Value} {d : BkS} (w : World) (h : BookAt B w k vh vw d) :
    Calls Tryz.prog 15 #[.pointer (some ⟨k, 0, none⟩)] w fun r w' => r = .returned (.int .u64 d.last) ∧ w = w' := by
  have hc := h.blk.cell
  have hlt := h.blk.lt
  simp only [BkS.cells] at hc
  clear h
  go_enter Tryz.func15, Tryz.ntmps15
  go_wp2_with fail
  go_ret
  exact ⟨rfl, rfl⟩
theorem lfind_any (x : LkS) (l : List LkS) (v : Value) (w : World) (hv : LksAt w v l) : Calls Tryz.prog 30 #[v, x.val] w fun e w' => e = .returned (.int .i64 (idxP (sameB x) l)) ∧ Upd [] w w' := by
  have e0 := one_lk w x.cells.toArray 42
  have HS := hd (fun W => says_same [] x l W)
  have HV := hd hv
  obtain ⟨a, c, rfl, -⟩ := hv
  have HX := hd (show x.val = .agg #[.int .i64 x.ses, .string (txt (textL x.path)), .bool x.excl, .int .u64 x.tok] from rfl)
  rw [HX.out]
  have hxc : x.cells.toArray = #[.int .i64 x.ses, .string (txt (textL x.path)), .bool x.excl, .int .u64 x.tok] := rfl
  rw [hxc] at e0
  go_enter Tryz.func30, Tryz.ntmps30
  go_upto_region 1 with fail
  obtain ⟨W, k, hk, hW, hu, hb⟩ := e0
  rw [hW, hk]
  have HU := hd hu
  have hc := hb.cell
  have HI := hd (idx_any _ _ _ _ l _ W (HV.out.later hu) (HS.out W))
  clear hW hk hu hb hxc
  go_wp2_with fail
  refine HI.out.mono ?_
  rintro e w1 ⟨rfl, hu1⟩
  go_wp2_with fail
  go_ret
  exact ⟨rfl, HU.out.trans hu1⟩
end Go.Proofs.YtpniggmdokkkcaaGreatDoor
