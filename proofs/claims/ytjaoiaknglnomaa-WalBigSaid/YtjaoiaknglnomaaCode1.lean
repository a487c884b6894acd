/-
  code.Writer: bytes gathered in a row that grows. Condition: the sizes that each theorem states.
-/
import Derived.Test.YtjaoiaknglnomaaRows
import Derived.Test.YtjaoiaknglnomaaLaws
import Derived.Deep.AppendLies
import Derived.Deep.RegionLaw
import Derived.Deep.DrawnRows
set_option linter.unusedVariables false
set_option linter.unusedSimpArgs false
set_option maxRecDepth 100000
namespace Go.Proofs.Ytjaoiaknglnomaa
open Go.RowKit

/-- Bytes as the cells of a row. -/
def u8s (l : List UInt8) : List Value := l.map fun b => .int .u8 (b.toNat : Int)
@[simp] theorem u8s_length (l : List UInt8) : (u8s l).length = l.length := by simp [u8s]
theorem u8s_append (a b : List UInt8) : u8s (a ++ b) = u8s a ++ u8s b := by simp [u8s]

/-- A writer at block k whose bytes are l; its row v lies at B or behind. -/
structure WrAt (B : Nat) (w : World) (k : Nat) (v : Value) (l : List UInt8) : Prop where
  blk : Blk w k #[v] 154
  own : w.ownsRow B 5 1 v l.length (u8s l)
theorem WrAt.ne {B : Nat} {w : World} {k : Nat} {v : Value} {l : List UInt8} (h : WrAt B w k v l) : some k ≠ v.ownBlock := by
  intro e
  rcases h.own.2 with he | ⟨g, cap, cur, he, hb, hg, _⟩
  · rw [he.1] at e; cases e
  · rw [he] at e
    simp only [Value.ownBlock, Option.some.injEq] at e
    subst e
    have := h.blk
    rw [Blk, hg] at this
    simp at this
theorem u8_info : ∃ i, Try.prog.info? 5 = some i ∧ i.zero = some (.int .u8 0) ∧ i.size = 1 ∧ i.bytes = 1 := by
  have h : (Try.prog.info? 5).map (fun i => (i.zero, i.size, i.bytes)) = some (some (.int .u8 0), 1, 1) := by kernel_rfl
  obtain ⟨i, hi, he⟩ := Option.map_eq_some_iff.1 h
  simp only [Prod.mk.injEq] at he
  exact ⟨i, hi, he.1, he.2.1, he.2.2⟩
/-- What a call to a writer turns: its block, its row; and new ones. -/
structure WrUp (k : Nat) (v v' : Value) (w w' : World) : Prop where
  upd : Upd (k :: v.ownBlock.toList) w w'
  row : ∀ g, v'.ownBlock = some g → v.ownBlock = some g ∨ w.heap.size ≤ g
theorem WrUp.refl (k : Nat) (v : Value) (w : World) : WrUp k v v w w := ⟨Upd.refl _ _, fun g h => .inl h⟩
theorem WrUp.trans {k : Nat} {u v v' : Value} {a b c : World} (h : WrUp k u v a b) (h' : WrUp k v v' b c) : WrUp k u v' a c := by
  refine ⟨h.upd.trans' h'.upd fun i hi => ?_, fun g hg => ?_⟩
  · rcases List.mem_cons.1 hi with rfl | hi
    · exact .inl (by simp)
    · have hv : v.ownBlock = some i := by simpa using hi
      rcases h.row i hv with h1 | h1
      · exact .inl (by simp [h1])
      · exact .inr h1
  · rcases h'.row g hg with h1 | h1
    · exact h.row g h1
    · exact .inr (Nat.le_trans h.upd.size h1)
/-- The bytes of a number, so many, the highest first. -/
def wideOf (x : Nat) : Nat → List UInt8
  | 0 => []
  | n + 1 => UInt8.ofNat (x / 256 ^ n) :: wideOf x n
theorem wideOf_length (x n : Nat) : (wideOf x n).length = n := by induction n with
  | zero => rfl
  | succ n ih => simp [wideOf, ih]

set_option maxHeartbeats 1000000 in
theorem wide_any (B k x n : Nat) (v : Value) (l : List UInt8) (w : World) (hw : WrAt B w k v l) (hx : x < 18446744073709551616) (hn : n ≤ 8) (hl : l.length ≤ 1099511627776) (hB : B ≤ w.heap.size) :
    Calls Try.prog 105 #[.pointer (some ⟨k, 0, none⟩), .int .u64 x, .int .i64 n] w fun e w' =>
      e = .returned (.tuple #[]) ∧ ∃ v', WrAt B w' k v' (l ++ wideOf x n) ∧ WrUp k v v' w w' := by
  have HINV := hd (show WrAt B w k v l ∧ WrUp k v v w w from ⟨hw, WrUp.refl _ _ _⟩)
  have hlt := hw.blk.lt
  clear hw
  go_enter Try.func105, Try.ntmps105
  go_wp2_with fail
  go_loopw [6] (fun i wr => ∃ (j : Nat) (v' : Value) (l' : List UInt8), j ≤ n ∧ i = .int .i64 ((j : Int) - 1) ∧ l' ++ wideOf x j = l ++ wideOf x n ∧ WrAt B wr k v' l' ∧ WrUp k v v' w wr) (fun i _ => (intOf i + 1).toNat)
  case atStart => exact ⟨n, v, l, Nat.le_refl _, rfl, rfl, HINV.out⟩
  case round =>
    clear HINV
    obtain ⟨j, v', l', hj, rfl, hl', hw', hu⟩ := hrel
    rcases Nat.eq_zero_or_pos j with rfl | hj0
    · go_wp2_with fail
      go_end0
      rw [show wideOf x 0 = [] from rfl, List.append_nil] at hl'
      exact ⟨rfl, v', hl' ▸ hw', hu⟩
    · obtain ⟨j, rfl⟩ : ∃ i, j = i + 1 := ⟨j - 1, by omega⟩
      have hj' : j ≤ 7 := by omega
      have hne := hw'.ne
      have hlen : l'.length + (j + 1) = l.length + n := by
        have := congrArg List.length hl'
        simpa [wideOf_length] using this
      have hcell : wr.cell? ⟨k, 0, none⟩ = some v' := hw'.blk.cell 0
      have hfz : wr.frozen? ⟨k, 0, none⟩ = false := hw'.blk.frozen 0
      have hlt' := hw'.blk.lt
      have hBw : B ≤ wr.heap.size := Nat.le_trans hB hu.upd.size
      obtain ⟨it, hi, hz0, hz1, hz2⟩ := u8_info
      rw [show (((j + 1 : Nat) : Int) - 1) = (j : Int) by omega]
      have hs0 : (0 : Int) ≤ 8 * (j : Int) := by omega
      have hs1 : 8 * (j : Int) < 64 := by omega
      have hs2 : IntKind.i64.wrap (8 * (j : Int)) = 8 * (j : Int) := by rw [IntKind.wrap_i64]; omega
      have hs3 : (x : Int) / 2 ^ (8 * (j : Int)).toNat = ((x / 256 ^ j : Nat) : Int) := by
        rw [show (8 * (j : Int)).toNat = 8 * j by omega, Int.pow_mul]; simp
      have hs4 : IntKind.u8.wrap ((x : Int) / 2 ^ (8 * (j : Int)).toNat) = ((UInt8.ofNat (x / 256 ^ j)).toNat : Int) := by rw [hs3, IntKind.wrap_u8]; simp
      clear hs3
      have HW := hd hw'
      have HU := hd hu
      clear hw' hu
      go_wp2_with fail
      go_region_law ((refine step_append_lies _ (by rfl) _ _ _ (by rfl) B 5 it _ 1 1 Try.underlying47 hi hz0 hz1 hz2 rfl (by omega) v' l'.length (u8s l') (by rfl) (own_upd (L := []) HW.out.own (((Upd.refl _ _).drew).alloc _) (fun _ _ => by simp)) ⟨wr.heap.size, 0, none⟩ 1 1 [_] (by rfl) (by rfl) (World.news_of_block (heap_alloc_new wr _)) (by intro u hu; simp at hu; subst hu; rfl) (by omega) (by simp [maxLen]; omega) (by omega) (by simp; omega) (wr.heap.size + 1) (by simp) ?_; intro g cap w1 hown hgrow hat hlt1; have hq := Blk.upd ((HW.out.blk.alloc _).drew) (Upd.of_grown hgrow) (by simpa using Ne.symm hne); have hqc := hq.cell 0; have hqf := hq.frozen 0; have hql := hq.lt; have HQ := hd hq; have HOWN := hd hown; have HGR := hd hgrow; have HAT := hd hat; clear hq hown hgrow hat))
      all_goals
        go_wp2_with fail
        go_roundw
        case rel =>
          have hgk : g ≠ k := by
            rcases HAT.out with h1 | h1
            · rintro rfl; exact hne h1.symm
            · omega
          have hv : (Value.int .u8 ((x : Int) / 256 ^ j % 256)) = .int .u8 ((UInt8.ofNat (x / 256 ^ j)).toNat : Int) := by
            congr 1
          refine ⟨j, .slice (some ⟨g, 0, none⟩) (l'.length + 1) cap, l' ++ [UInt8.ofNat (x / 256 ^ j)], by omega, by go_num, by rw [← hl']; simp [wideOf], ⟨HQ.out.set 0 _, ?_⟩, HU.out.trans ⟨?_, ?_⟩⟩
          · have h1 := own_upd (L := [k]) HOWN.out ((Upd.refl _ _).setCell (p := ⟨k, 0, none⟩) (by simp) (.slice (some ⟨g, 0, none⟩) (l'.length + 1) cap)) (by simpa [Value.ownBlock] using hgk)
            rw [hv] at h1
            simpa [u8s_append, u8s] using h1
          · exact ((((Upd.refl _ wr).alloc _).drew).trans ((Upd.of_grown HGR.out).mono (by simp; grind))).setCell (by simp) _
          · intro g' hg'
            simp only [Value.ownBlock, Option.some.injEq] at hg'
            subst hg'
            rcases HAT.out with h1 | h1
            · exact .inl h1
            · exact .inr (by omega)
        case measure => simp [intOf]
end Go.Proofs.Ytjaoiaknglnomaa
