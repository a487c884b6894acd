/-
  The small functions of package accept and of package ballot, walked. Conditions: those that each theorem states.
-/
import Derived.Test.YtfhmdeamhmjddaaCode1
import Derived.BigRegion
import Derived.Deep.RegionHeld3
set_option linter.unusedVariables false
set_option linter.unusedSimpArgs false
set_option maxRecDepth 100000
namespace Go.Proofs.Ytfhmdeamhmjddaa
open Go.RowKit

/-- A ballot. -/
structure BalS where
  c : Int
  n : Int
/-- An entry. -/
structure EntS where
  slot : Int
  bal : BalS
  text : ByteArray
/-- An acceptor. -/
structure AccS where
  wit : Bool
  bal : BalS
  base : Int
  list : List EntS
  node : Int
  til : Int
def BalS.val (b : BalS) : Value := .agg #[.int .u64 b.c, .int .i64 b.n]
def EntS.val (e : EntS) : Value := .agg #[.int .i64 e.slot, .int .u64 e.bal.c, .int .i64 e.bal.n, .string e.text]
def EntS.cells (e : EntS) : List Value := [.int .i64 e.slot, .int .u64 e.bal.c, .int .i64 e.bal.n, .string e.text]
def entCells (l : List EntS) : List Value := l.flatMap EntS.cells
def AccS.cells (d : AccS) (l : Value) : Array Value := #[.bool d.wit, .int .u64 d.bal.c, .int .i64 d.bal.n, .int .i64 d.base, l, .int .i64 d.node, .int .i64 d.til]

/-- An acceptor in memory: at block b, its entries in the row l, at B or behind. -/
structure AccAt (B : Nat) (w : World) (b : Nat) (l : Value) (d : AccS) : Prop where
  blk : Blk w b (d.cells l) 76
  own : w.ownsRow B 85 4 l d.list.length (entCells d.list)

theorem ret_i {k : IntKind} {a b : Int} (h : a = b) : Ending.returned (.int k a) = .returned (.int k b) := by rw [h]
theorem ret_b {a b : Bool} (h : a = b) : Ending.returned (.bool a) = .returned (.bool b) := by rw [h]
theorem Blk.newd (w : World) {k : Nat} (c : Array Value) (T : TypeId) (hk : k = w.heap.size) : Blk (w.alloc (.cells c T)).drew k c T := (Blk.new' w c T hk).drew
/-- Which of two numbers is greater. -/
def cmpI (a b : Int) : Int := if a < b then -1 else if b < a then 1 else 0
def orI (a b : Int) : Int := if a = 0 then b else a
def BalS.cmp (a b : BalS) : Int := orI (cmpI a.c b.c) (cmpI a.n b.n)

theorem nan0_any (a : Int) (w : World) : Calls Try.prog 71 #[.int .u64 a] w fun e w' => e = .returned (.bool false) ∧ w = w' := by
  go_enter Try.func71, Try.ntmps71
  go_wp2
  go_ret
  exact ⟨rfl, rfl⟩
theorem compare0_any (a b : Int) (w : World) : Calls Try.prog 46 #[.int .u64 a, .int .u64 b] w fun e w' => e = .returned (.int .i64 (cmpI a b)) ∧ w = w' := by
  go_enter Try.func46, Try.ntmps46
  have HC := hd (show cmpI a b = if a < b then -1 else if b < a then 1 else 0 from rfl)
  go_wp2_with ((with_reducible refine (nan0_any _ _).mono ?_); rintro e w' ⟨rfl, rfl⟩)
  all_goals
    go_ret
    refine ⟨ret_i ?_, rfl⟩
    rw [HC.out]
    (repeat' split) <;> omega
theorem nan1_any (a : Int) (w : World) : Calls Try.prog 72 #[.int .i64 a] w fun e w' => e = .returned (.bool false) ∧ w = w' := by
  go_enter Try.func72, Try.ntmps72
  go_wp2
  go_ret
  exact ⟨rfl, rfl⟩
theorem compare1_any (a b : Int) (w : World) : Calls Try.prog 47 #[.int .i64 a, .int .i64 b] w fun e w' => e = .returned (.int .i64 (cmpI a b)) ∧ w = w' := by
  go_enter Try.func47, Try.ntmps47
  have HC := hd (show cmpI a b = if a < b then -1 else if b < a then 1 else 0 from rfl)
  go_wp2_with ((with_reducible refine (nan1_any _ _).mono ?_); rintro e w' ⟨rfl, rfl⟩)
  all_goals
    go_ret
    refine ⟨ret_i ?_, rfl⟩
    rw [HC.out]
    (repeat' split) <;> omega
theorem or_any (a b : Int) (k : Nat) (w : World) (h : Blk w k #[.int .i64 a, .int .i64 b] 3) :
    Calls Try.prog 45 #[.slice (some ⟨k, 0, none⟩) 2 2] w fun e w' => e = .returned (.int .i64 (orI a b)) ∧ w = w' := by
  have HO := hd (show orI a b = if a = 0 then b else a from rfl)
  have hc := h.cell
  clear h
  go_enter Try.func45, Try.ntmps45
  go_wp2
  go_loopw [5, 8] (fun _ i wr => ∃ k : Int, i = .int .i64 k ∧ (k = 0 ∨ k = 1 ∧ a = 0 ∨ k = 2 ∧ a = 0 ∧ b = 0) ∧ w = wr) (fun _ i _ => 2 - (intOf i).toNat)
  case atStart => exact ⟨0, rfl, .inl rfl, rfl⟩
  case round =>
    obtain ⟨k, rfl, hk, rfl⟩ := hrel
    rcases hk with rfl | ⟨rfl, rfl⟩ | ⟨rfl, rfl, rfl⟩
    · by_cases ha : a = 0
      · subst ha
        go_wp2
        refine ⟨⟨1, ?_⟩, ?_⟩ <;> simp [intOf]
      · have ha' : (a == 0) = false := by simpa using ha
        go_wp2
        go_ret
        exact ⟨ret_i (by rw [HO.out]; simp [ha]), rfl⟩
    · by_cases ha : b = 0
      · subst ha
        go_wp2
        refine ⟨⟨2, ?_⟩, ?_⟩ <;> simp [intOf]
      · have ha' : (b == 0) = false := by simpa using ha
        go_wp2
        go_ret
        exact ⟨ret_i (by rw [HO.out]; simp), rfl⟩
    · go_wp2
      go_ret
      exact ⟨ret_i (by rw [HO.out]; simp), rfl⟩

set_option maxHeartbeats 1000000 in
theorem bcompare_any (a b : BalS) (w : World) : Calls Try.prog 19 #[a.val, b.val] w fun e w' => e = .returned (.int .i64 (a.cmp b)) ∧ Upd [] w w' := by
  obtain ⟨ac, an⟩ := a
  obtain ⟨bc, bn⟩ := b
  have HC := hd (show BalS.cmp ⟨ac, an⟩ ⟨bc, bn⟩ = orI (cmpI ac bc) (cmpI an bn) from rfl)
  unfold BalS.val
  go_enter Try.func19, Try.ntmps19
  go_wp2
  go_region_held3 (fun w' => w'.cell? ⟨w.heap.size, 0, none⟩ = some (.int .u64 ac) ∧ w'.cell? ⟨w.heap.size, 1, none⟩ = some (.int .i64 an) ∧ w'.cell? ⟨w.heap.size + 1, 0, none⟩ = some (.int .u64 bc) ∧ w'.cell? ⟨w.heap.size + 1, 1, none⟩ = some (.int .i64 bn)) (go_keep)
    (first
    | ((with_reducible refine (compare0_any _ _ _).mono ?_); rintro e w' ⟨rfl, rfl⟩)
    | ((with_reducible refine (compare1_any _ _ _).mono ?_); rintro e w' ⟨rfl, rfl⟩)
    | ((with_reducible refine (or_any _ _ _ _ (Blk.newd _ _ _ (by simp))).mono ?_); rintro e w' ⟨rfl, rfl⟩))
  all_goals
    go_wp2
    go_ret
    rw [HC.out]
    exact ⟨rfl, (((Upd.refl _ _).alloc _).alloc _ |>.alloc _).drew⟩
end Go.Proofs.Ytfhmdeamhmjddaa
