/-
  strings.Builder, walked in this program: copyCheck, WriteString, Len, String. Conditions: at most 2^47 bytes.
-/
import Derived.Test.YtjaoiaknglnomaaWal4
import Derived.Lib.Builder
import Derived.Lib.UnsafeStr
import Derived.Laws.Externs
import Derived.Shelf.RegionOpenPlain
set_option linter.unusedVariables false
set_option linter.unusedSimpArgs false
set_option maxRecDepth 100000
namespace Go.Proofs.Ytjaoiaknglnomaa
open Go.RowKit

theorem Try.sizeBuilder : (Try.prog.info? 146).map (·.size) = some 2 := by kernel_rfl
theorem Try.liesBuilder : liesAt Try.prog Try.prog.depth 146 (2 / Try.prog.cellsOf 146) 0 146 1 = true := by kernel_rfl
theorem Try.cellsByte : Try.prog.cellsOf 5 = 1 := by kernel_rfl

/-- A builder, fresh or used, with its bytes. -/
abbrev BldAt (B b : Nat) (l : List UInt8) (w : World) : Prop := Lib.IsBuilder 146 5 B b (Lib.byteCells l) w

theorem bcheck_used (b : Nat) (w : World) (h0 : w.cell? ⟨b, 0, none⟩ = some (.pointer (some ⟨b, 0, none⟩))) :
    Calls Try.prog 102 #[.pointer (some ⟨b, 0, none⟩)] w fun e w' => e = .returned (.tuple #[]) ∧ w' = w := by
  obtain ⟨j, hj, _⟩ := Option.map_eq_some_iff.1 Try.sizeBuilder
  go_enter Try.func102, Try.ntmps102
  go_wp2
  rw [Lib.run_neq_ptr_same w _ Try.underlying144 hj]
  go_wp2
  go_end0
  exact ⟨rfl, rfl⟩

theorem bcheck_fresh (b : Nat) (w : World) (h0 : w.cell? ⟨b, 0, none⟩ = some (.pointer none)) (hsh : w.shape? b = some (146, 2)) (hfz : w.frozen? ⟨b, 0, none⟩ = false) :
    Calls Try.prog 102 #[.pointer (some ⟨b, 0, none⟩)] w fun e w' => e = .returned (.tuple #[]) ∧ w' = w.setCell ⟨b, 0, none⟩ (.pointer (some ⟨b, 0, none⟩)) := by
  obtain ⟨j, hj, hjs⟩ := Option.map_eq_some_iff.1 Try.sizeBuilder
  go_enter Try.func102, Try.ntmps102
  go_wp2
  rw [Lib.run_to_unsafe w ⟨b, 0, none⟩ Try.underlying144 Try.underlying174 hj (by rw [hjs]; decide) hsh (Nat.zero_lt_succ 1)]
  simp only [Result.andThen]
  rw [Oper.upon_value]
  go_wp2
  rw [run_callFunc_extern Try.func107 (by kernel_rfl) (by kernel_rfl) (by kernel_rfl) (e := Extern.AbiNoEscape.same) (by kernel_rfl)]
  rw [Lib.run_noEscape]
  simp only [Result.andThen]
  rw [Oper.upon_value]
  go_wp2
  rw [Lib.run_from_unsafe w ⟨b, 0, none⟩ Try.underlying174 Try.underlying144 hj hsh Try.liesBuilder]
  simp only [Result.andThen]
  rw [Oper.upon_value]
  go_wp2
  go_end0
  exact ⟨rfl, rfl⟩

theorem bcheck_any (B b : Nat) (bs : List Value) (w : World) (h : Lib.IsBuilder 146 5 B b bs w) :
    Calls Try.prog 102 #[.pointer (some ⟨b, 0, none⟩)] w fun e w' => e = .returned (.tuple #[]) ∧ (Lib.BuilderAt 146 5 B b (.pointer (some ⟨b, 0, none⟩)) bs w' ∧ Below B w w') := by
  rcases h with h | h
  · refine (bcheck_fresh b w h.cell0 h.shape h.frozen0).mono ?_
    rintro e w' ⟨rfl, rfl⟩
    exact ⟨rfl, h.used _, (Below.refl B w).setCell (p := ⟨b, 0, none⟩) h.1 _⟩
  · refine (bcheck_used b w h.cell0).mono ?_
    rintro e w' ⟨rfl, rfl⟩
    exact ⟨rfl, h, Below.refl B _⟩

theorem bwrite_any (B b : Nat) (l : List UInt8) (t : List UInt8) (w : World) (h : BldAt B b l w) (hlen : l.length + t.length ≤ 140737488355328) (hBw : B ≤ w.heap.size) :
    Calls Try.prog 85 #[.pointer (some ⟨b, 0, none⟩), .string (txt t)] w fun e w' => e = .returned (.tuple #[.int .i64 t.length, .nilIface]) ∧ BldAt B b (l ++ t) w' ∧ Below B w w' := by
  have hts : (txt t).size = t.length := by simp [txt, ByteArray.size]
  have hsc : Lib.byteCells l ++ Lib.strCells (txt t) = Lib.byteCells (l ++ t) := by rw [Lib.strCells_eq, Lib.byteCells_append]; simp [txt]
  have hbl : (Lib.byteCells l).length = l.length := Lib.byteCells_length l
  obtain ⟨i0, hi, hz0, hz1, hz2⟩ := u8_info
  have H := hd h
  have HSC := hd hsc
  clear hsc h
  go_enter Try.func85, Try.ntmps85
  go_wp2_with fail
  refine (bcheck_any B b _ w H.out).mono ?_
  rintro e w1 ⟨rfl, h1, hb1⟩
  obtain ⟨hB, v, hbk, hown, hne⟩ := h1
  have c0 : w1.cell? ⟨b, 0, none⟩ = some (.pointer (some ⟨b, 0, none⟩)) := by rw [Lib.cell_of_heap hbk]; rfl
  have c1 : w1.cell? ⟨b, 1, none⟩ = some v := by rw [Lib.cell_of_heap hbk]; rfl
  have HOWN := hd hown
  have HBK := hd hbk
  have HB1 := hd hb1
  clear hown hbk hb1
  go_wp2_with (at_builtin; refine Lib.wpList_append_own_string _ rfl _ _ 47 9 rfl B 5 i0 Try.underlying47 Try.underlying9 hi hz0 hz1 hz2 _ _ _ rfl HOWN.out (txt t) rfl (by unfold maxLen; omega) (by omega) (by have := HB1.out.size; omega) ?_; intro v' w2 hown' hgrow _; have hlt : b < w1.heap.size := Blk.lt HBK.out; have hb2 : Blk w2 b #[.pointer (some ⟨b, 0, none⟩), v] 146 := (hgrow.block b hlt (fun e => hne e.symm)).trans HBK.out; have d1 := hb2.cell; have f1 := hb2.frozen; obtain ⟨ao, cap, rfl⟩ := own_shape hown'; have HO2 := hd hown'; have HG2 := hd hgrow; have HB2 := hd hb2; clear hown' hgrow hb2)
  go_ret2
  refine ⟨rfl, .inr ?_, ?_⟩
  · rw [← HSC.out]
    exact Lib.BuilderAt.put hB HB2.out (by simpa [Lib.strCells_length, hbl] using HO2.out) (by decide)
  · exact (HB1.out.grown HG2.out (by have := HB1.out.size; omega) (fun k hk => (HOWN.out.lt k hk).1)).setCell (p := ⟨b, 1, none⟩) hB _

/-- What its length is read from. -/
def BLen (b n : Nat) (w : World) : Prop := ∃ (p : Value) (ao : Option Addr) (cap : Nat), Blk w b #[p, .slice ao n cap] 146
theorem BldAt.len {B b : Nat} {l : List UInt8} {w : World} (h : BldAt B b l w) : BLen b l.length w := by
  obtain ⟨p, hB, v, hbk, hown, hne⟩ : ∃ p, Lib.BuilderAt 146 5 B b p (Lib.byteCells l) w := by
    rcases h with h | h
    · exact ⟨_, h⟩
    · exact ⟨_, h⟩
  rw [Lib.byteCells_length] at hown
  obtain ⟨ao, cap, rfl⟩ := own_shape hown
  exact ⟨p, ao, cap, hbk⟩
theorem blen_any (b n : Nat) (w : World) (h : BLen b n w) :
    Calls Try.prog 88 #[.pointer (some ⟨b, 0, none⟩)] w fun e w' => e = .returned (.int .i64 n) ∧ w = w' := by
  obtain ⟨p, ao, cap, h⟩ := h
  have c1 := h.cell
  clear h
  go_enter Try.func88, Try.ntmps88
  go_wp2_with fail
  go_ret
  exact ⟨rfl, rfl⟩

theorem blk_freeze {w : World} {b g n : Nat} {c : Array Value} {T : TypeId} (h : Blk w b c T) (hne : g ≠ b) : Blk (w.freeze ⟨g, 0, none⟩ n) b c T := by
  unfold World.freeze
  split
  · exact h
  · simp only [Blk, Array.getElem?_modify]
    rw [if_neg hne]
    exact h

set_option maxHeartbeats 2000000 in
theorem btext_row (B b g cap : Nat) (p : Value) (cur : Array Value) (l : List UInt8) (w : World) (hbk : Blk w b #[p, .slice (some ⟨g, 0, none⟩) l.length cap] 146) (hg : Blk w g cur 5) (hgb : g ≠ b) (hBg : B ≤ g) (h0 : l ≠ [])
    (hnc : l.length ≤ cap) (hcm : cap ≤ maxLen) (hcs : cur.size = cap) (hcell : ∀ j x, l[j]? = some x → w.cell? ((⟨g, 0, none⟩ : Addr).add j) = some (.int .u8 x.toNat)) :
    Calls Try.prog 87 #[.pointer (some ⟨b, 0, none⟩)] w fun e w' => e = .returned (.string (txt l)) ∧ Below B w w' ∧ BLen b l.length w' := by
  have hl0 : l.length ≠ 0 := by simpa using h0
  have c1 : w.drew.cell? ⟨b, 1, none⟩ = some (.slice (some ⟨g, 0, none⟩) l.length cap) := hbk.cell 1
  have hSD : (Builtin.unsafeSliceData_ #[47] 170 #[.slice (some ⟨g, 0, none⟩) l.length cap]).run Try.prog w.drew = .ok (.pointer (some ⟨g, 0, none⟩)) w.drew :=
    Lib.run_unsafeSliceData_row _ _ _ _ _ _ (by omega)
  have hUS : (Builtin.unsafeString_ #[170, 3] 9 #[.pointer (some ⟨g, 0, none⟩), .int .i64 l.length]).run Try.prog w.drew = .ok (.string (txt l)) (w.drew.freeze ⟨g, 0, none⟩ l.length) :=
    Lib.run_unsafeString_row w.drew 170 3 9 5 Try.underlying170 Try.cellsByte g cur.size (by have hg' : w.drew.heap[g]? = some (.cells cur 5 (0, 0)) := hg; simp [World.shape?, hg']) l h0 (by omega) (by unfold maxLen at hcm; omega) hcell
  have HBK := hd hbk
  clear hbk hg hcell hcs hcm hnc
  have mixed : Try.prog.follows .mixedOrders = true := by kernel_rfl
  go_enter Try.func87, Try.ntmps87
  go_wp2_with fail
  go_region_o
  all_goals (go_wp2_with fail; go_ret; exact ⟨rfl, Lib.below_freeze (Below.drew (Below.refl B w)) (p := ⟨g, 0, none⟩) hBg _, _, _, _, blk_freeze HBK.out.drew hgb⟩)

set_option maxHeartbeats 2000000 in
theorem btext_nil (B b : Nat) (p : Value) (w : World) (hbk : Blk w b #[p, .slice none 0 0] 146) :
    Calls Try.prog 87 #[.pointer (some ⟨b, 0, none⟩)] w fun e w' => e = .returned (.string ⟨#[]⟩) ∧ Below B w w' ∧ BLen b 0 w' := by
  have hUS : ∀ (W : World) (q : Option Addr), (Builtin.unsafeString_ #[170, 3] 9 #[.pointer q, .int .i64 0]).run Try.prog W = .ok (.string .empty) W := fun W q => Lib.run_unsafeString_none W _ _ _ q
  have c1 : w.drew.cell? ⟨b, 1, none⟩ = some (.slice none 0 0) := hbk.cell 1
  have hSD : (Builtin.unsafeSliceData_ #[47] 170 #[.slice none 0 0]).run Try.prog w.drew = .ok (.pointer none) w.drew := rfl
  have HBK := hd hbk
  clear hbk
  have mixed : Try.prog.follows .mixedOrders = true := by kernel_rfl
  go_enter Try.func87, Try.ntmps87
  go_wp2_with fail
  go_region_o
  all_goals (go_wp2_with fail; go_ret; exact ⟨rfl, Below.drew (Below.refl B w), _, _, _, HBK.out.drew⟩)

set_option maxHeartbeats 2000000 in
theorem btext_room (B b g cap : Nat) (p : Value) (w : World) (hc0 : cap ≠ 0) (hbk : Blk w b #[p, .slice (some ⟨g, 0, none⟩) 0 cap] 146) :
    Calls Try.prog 87 #[.pointer (some ⟨b, 0, none⟩)] w fun e w' => e = .returned (.string ⟨#[]⟩) ∧ Below B w w' ∧ BLen b 0 w' := by
  have hUS : ∀ (W : World) (q : Option Addr), (Builtin.unsafeString_ #[170, 3] 9 #[.pointer q, .int .i64 0]).run Try.prog W = .ok (.string .empty) W := fun W q => Lib.run_unsafeString_none W _ _ _ q
  have c1 : w.drew.cell? ⟨b, 1, none⟩ = some (.slice (some ⟨g, 0, none⟩) 0 cap) := hbk.cell 1
  have hSD : (Builtin.unsafeSliceData_ #[47] 170 #[.slice (some ⟨g, 0, none⟩) 0 cap]).run Try.prog w.drew = .ok (.pointer (some ⟨g, 0, none⟩)) w.drew :=
    Lib.run_unsafeSliceData_row _ _ _ _ _ _ hc0
  have HBK := hd hbk
  clear hbk hc0
  have mixed : Try.prog.follows .mixedOrders = true := by kernel_rfl
  go_enter Try.func87, Try.ntmps87
  go_wp2_with fail
  go_region_o
  all_goals (go_wp2_with fail; go_ret; exact ⟨rfl, Below.drew (Below.refl B w), _, _, _, HBK.out.drew⟩)

set_option maxHeartbeats 2000000 in
theorem btext_noroom (B b g : Nat) (p : Value) (cur : Array Value) (w : World) (hBw : B ≤ w.heap.size) (hbk : Blk w b #[p, .slice (some ⟨g, 0, none⟩) 0 0] 146) (hg : Blk w g cur 5) :
    Calls Try.prog 87 #[.pointer (some ⟨b, 0, none⟩)] w fun e w' => e = .returned (.string ⟨#[]⟩) ∧ Below B w w' ∧ BLen b 0 w' := by
  have hUS : ∀ (W : World) (q : Option Addr), (Builtin.unsafeString_ #[170, 3] 9 #[.pointer q, .int .i64 0]).run Try.prog W = .ok (.string .empty) W := fun W q => Lib.run_unsafeString_none W _ _ _ q
  have c1 : w.drew.cell? ⟨b, 1, none⟩ = some (.slice (some ⟨g, 0, none⟩) 0 0) := hbk.cell 1
  have hSD : (Builtin.unsafeSliceData_ #[47] 170 #[.slice (some ⟨g, 0, none⟩) 0 0]).run Try.prog w.drew = .ok (.pointer (some ⟨w.drew.heap.size, 0, none⟩)) (w.drew.alloc (.view ⟨g, 0, none⟩ 5)) :=
    Lib.run_unsafeSliceData_zero w.drew _ _ 5 Try.underlying170 ⟨g, 0, none⟩ 0 (5, cur.size) (by have hg' : w.drew.heap[g]? = some (.cells cur 5 (0, 0)) := hg; simp [World.shape?, hg'])
  have c2 : (w.drew.alloc (.view ⟨g, 0, none⟩ 5)).cell? ⟨b, 1, none⟩ = some (.slice (some ⟨g, 0, none⟩) 0 0) := (hbk.drew.alloc _).cell 1
  have c3 : (w.alloc (.view ⟨g, 0, none⟩ 5)).drew.cell? ⟨b, 1, none⟩ = some (.slice (some ⟨g, 0, none⟩) 0 0) := c2
  have c0 : w.cell? ⟨b, 1, none⟩ = some (.slice (some ⟨g, 0, none⟩) 0 0) := c1
  have HBK := hd hbk
  clear hbk hg
  have mixed : Try.prog.follows .mixedOrders = true := by kernel_rfl
  go_enter Try.func87, Try.ntmps87
  go_wp2_with fail
  go_region_o
  all_goals (go_wp2_with fail; go_ret; exact ⟨rfl, (Below.drew (Below.refl B w)).alloc hBw _, _, _, _, HBK.out.drew.alloc _⟩)

theorem btext_any (B b : Nat) (l : List UInt8) (w : World) (h : BldAt B b l w) (hBw : B ≤ w.heap.size) :
    Calls Try.prog 87 #[.pointer (some ⟨b, 0, none⟩)] w fun e w' => e = .returned (.string (txt l)) ∧ Below B w w' ∧ BLen b l.length w' := by
  obtain ⟨p, hB, v, hbk, hown, hne⟩ : ∃ p, Lib.BuilderAt 146 5 B b p (Lib.byteCells l) w := by
    rcases h with h | h
    · exact ⟨_, h⟩
    · exact ⟨_, h⟩
  rw [Lib.byteCells_length] at hown
  by_cases h0 : l = []
  · subst h0
    rcases hown.2 with ⟨rfl, _⟩ | ⟨g, cap, cur, rfl, hBg, hg, hnc, hcm, hcs, htake⟩
    · exact btext_nil B b p w hbk
    · by_cases hc0 : cap = 0
      · subst hc0
        exact btext_noroom B b g p cur w hBw hbk hg
      · exact btext_room B b g cap p w hc0 hbk
  · have hl0 : l.length ≠ 0 := by simpa using h0
    rcases hown.2 with ⟨_, hz⟩ | ⟨g, cap, cur, rfl, hBg, hg, hnc, hcm, hcs, htake⟩
    · exact absurd hz hl0
    · refine btext_row B b g cap p cur l w hbk hg (fun e => hne (by rw [e]; rfl)) hBg h0 hnc hcm (by simpa using hcs) ?_
      intro j x hx
      exact hown.cells (g := g) rfl j (.int .u8 x.toNat) (by simp [Lib.byteCells, hx])
end Go.Proofs.Ytjaoiaknglnomaa
