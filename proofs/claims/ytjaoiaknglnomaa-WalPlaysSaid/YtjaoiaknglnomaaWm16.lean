/-
  strings.Builder, walked in this program: copyCheck, WriteString, Len, String. Conditions: at most 2^47 bytes.
-/
import Derived.Test.YtjaoiaknglnomaaWm15
import Derived.Lib.Builder
import Derived.Lib.UnsafeStr
import Derived.Laws.Externs
import Derived.Shelf.RegionOpenPlain
set_option linter.unusedVariables false
set_option linter.unusedSimpArgs false
set_option maxRecDepth 100000
namespace Go.Proofs.Ytjaoiaknglnomaa
open Go.RowKit

theorem Try.sizeBuilder : (Try.prog.info? 146).map (·.size) = some 2 := by kernel_rfl
theorem Try.liesBuilder : liesAt Try.prog Try.prog.depth 146 (2 / Try.prog.cellsOf 146) 0 146 1 = true := by kernel_rfl
theorem Try.cellsByte : Try.prog.cellsOf 5 = 1 := by kernel_rfl

/-- A builder, fresh or used, with its bytes. -/
abbrev BldAt (B b : Nat) (l : List UInt8) (w : World) : Prop := Lib.IsBuilder 146 5 B b (Lib.byteCells l) w

theorem bcheck_used (b : Nat) (w : World) (h0 : w.cell? ⟨b, 0, none⟩ = some (.pointer (some ⟨b, 0, none⟩))) :
    Calls Try.prog 102 #[.pointer (some ⟨b, 0, none⟩)] w fun e w' => e = .returned (.tuple #[]) ∧ w' = w := by
  obtain ⟨j, hj, _⟩ := Option.map_eq_some_iff.1 Try.sizeBuilder
  go_enter Try.func102, Try.ntmps102
  go_wp2
  rw [Lib.run_neq_ptr_same w _ Try.underlying144 hj]
  go_wp2
  go_end0
  exact ⟨rfl, rfl⟩

theorem bcheck_fresh (b : Nat) (w : World) (h0 : w.cell? ⟨b, 0, none⟩ = some (.pointer none)) (hsh : w.shape? b = some (146, 2)) (hfz : w.frozen? ⟨b, 0, none⟩ = false) :
    Calls Try.prog 102 #[.pointer (some ⟨b, 0, none⟩)] w fun e w' => e = .returned (.tuple #[]) ∧ w' = w.setCell ⟨b, 0, none⟩ (.pointer (some ⟨b, 0, none⟩)) := by
  obtain ⟨j, hj, hjs⟩ := Option.map_eq_some_iff.1 Try.sizeBuilder
  go_enter Try.func102, Try.ntmps102
  go_wp2
  rw [Lib.run_to_unsafe w ⟨b, 0, none⟩ Try.underlying144 Try.underlying174 hj (by rw [hjs]; decide) hsh (Nat.zero_lt_succ 1)]
  simp only [Result.andThen]
  rw [Oper.upon_value]
  go_wp2
  rw [run_callFunc_extern Try.func107 (by kernel_rfl) (by kernel_rfl) (by kernel_rfl) (e := Extern.AbiNoEscape.same) (by kernel_rfl)]
  rw [Lib.run_noEscape]
  simp only [Result.andThen]
  rw [Oper.upon_value]
  go_wp2
  rw [Lib.run_from_unsafe w ⟨b, 0, none⟩ Try.underlying174 Try.underlying144 hj hsh Try.liesBuilder]
  simp only [Result.andThen]
  rw [Oper.upon_value]
  go_wp2
  go_end0
  exact ⟨rfl, rfl⟩

theorem bcheck_any (B b : Nat) (bs : List Value) (w : World) (h : Lib.IsBuilder 146 5 B b bs w) :
    Calls Try.prog 102 #[.pointer (some ⟨b, 0, none⟩)] w fun e w' => e = .returned (.tuple #[]) ∧ (Lib.BuilderAt 146 5 B b (.pointer (some ⟨b, 0, none⟩)) bs w' ∧ Below B w w') := by
  rcases h with h | h
  · refine (bcheck_fresh b w h.cell0 h.shape h.frozen0).mono ?_
    rintro e w' ⟨rfl, rfl⟩
    exact ⟨rfl, h.used _, (Below.refl B w).setCell (p := ⟨b, 0, none⟩) h.1 _⟩
  · refine (bcheck_used b w h.cell0).mono ?_
    rintro e w' ⟨rfl, rfl⟩
    exact ⟨rfl, h, Below.refl B _⟩

theorem bwrite_any (B b : Nat) (l : List UInt8) (t : List UInt8) (w : World) (h : BldAt B b l w) (hlen : l.length + t.length ≤ 140737488355328) (hBw : B ≤ w.heap.size) :
    Calls Try.prog 85 #[.pointer (some ⟨b, 0, none⟩), .string (txt t)] w fun e w' => e = .returned (.tuple #[.int .i64 t.length, .nilIface]) ∧ BldAt B b (l ++ t) w' ∧ Below B w w' := by
  have hts : (txt t).size = t.length := by simp [txt, ByteArray.size]
  have hsc : Lib.byteCells l ++ Lib.strCells (txt t) = Lib.byteCells (l ++ t) := by rw [Lib.strCells_eq, Lib.byteCells_append]; simp [txt]
  have hbl : (Lib.byteCells l).length = l.length := Lib.byteCells_length l
  obtain ⟨i0, hi, hz0, hz1, hz2⟩ := u8_info
  have H := hd h
  have HSC := hd hsc
  clear hsc h
  go_enter Try.func85, Try.ntmps85
  go_wp2_with fail
  refine (bcheck_any B b _ w H.out).mono ?_
  rintro e w1 ⟨rfl, h1, hb1⟩
  obtain ⟨hB, v, hbk, hown, hne⟩ := h1
  have c0 : w1.cell? ⟨b, 0, none⟩ = some (.pointer (some ⟨b, 0, none⟩)) := by rw [Lib.cell_of_heap hbk]; rfl
  have c1 : w1.cell? ⟨b, 1, none⟩ = some v := by rw [Lib.cell_of_heap hbk]; rfl
  have HOWN := hd hown
  have HBK := hd hbk
  have HB1 := hd hb1
  clear hown hbk hb1
  go_wp2_with (at_builtin; refine Lib.wpList_append_own_string _ rfl _ _ 47 9 rfl B 5 i0 Try.underlying47 Try.underlying9 hi hz0 hz1 hz2 _ _ _ rfl HOWN.out (txt t) rfl (by unfold maxLen; omega) (by omega) (by have := HB1.out.size; omega) ?_; intro v' w2 hown' hgrow _; have hlt : b < w1.heap.size := Blk.lt HBK.out; have hb2 : Blk w2 b #[.pointer (some ⟨b, 0, none⟩), v] 146 := (hgrow.block b hlt (fun e => hne e.symm)).trans HBK.out; have d1 := hb2.cell; have f1 := hb2.frozen; obtain ⟨ao, cap, rfl⟩ := own_shape hown'; have HO2 := hd hown'; have HG2 := hd hgrow; have HB2 := hd hb2; clear hown' hgrow hb2)
  go_ret2
  refine ⟨rfl, .inr ?_, ?_⟩
  · rw [← HSC.out]
    exact Lib.BuilderAt.put hB HB2.out (by simpa [Lib.strCells_length, hbl] using HO2.out) (by decide)
  · exact (HB1.out.grown HG2.out (by have := HB1.out.size; omega) (fun k hk => (HOWN.out.lt k hk).1)).setCell (p := ⟨b, 1, none⟩) hB _

/-- What its length is read from. -/
def BLen (b n : Nat) (w : World) : Prop := ∃ (p : Value) (ao : Option Addr) (cap : Nat), Blk w b #[p, .slice ao n cap] 146
theorem BldAt.len {B b : Nat} {l : List UInt8} {w : World} (h : BldAt B b l w) : BLen b l.length w := by
  obtain ⟨p, hB, v, hbk, hown, hne⟩ : ∃ p, Lib.BuilderAt 146 5 B b p (Lib.byteCells l) w := by
    rcases h with h | h
    · exact ⟨_, h⟩
    · exact ⟨_, h⟩
  rw [Lib.byteCells_length] at hown
  obtain ⟨ao, cap, rfl⟩ := own_shape hown
  exact ⟨p, ao, cap, hbk⟩
theorem blen_any (b n : Nat) (w : World) (h : BLen b n w) :
    Calls Try.prog 88 #[.pointer (some ⟨b, 0, none⟩)] w fun e w' => e = .returned (.int .i64 n) ∧ w = w' := by
  obtain ⟨p, ao, cap, h⟩ := h
  have c1 := h.cell
  clear h
  go_enter Try.func88, Try.ntmps88
  go_wp2_with fail
  go_ret
  exact ⟨rfl, rfl⟩

theorem blk_freeze {w : World} {b g n : Nat} {c : Array Value} {T : TypeId} (h : Blk w b c T) (hne : g ≠ b) : Blk (w.freeze ⟨g, 0, none⟩ n) b c T := by
  unfold World.freeze
  split
  · exact h
  · simp only [Blk, Array.getElem?_modify]
    rw [if_neg hne]
    exact h

set_option maxHeartbeats 2000000 in
theorem btext_row (B b g cap : Nat) (p : Value) (cur : Array Value) (l : List UInt8) (w : World) (hbk : Blk w b #[p, .slice (some ⟨g, 0, none⟩) l.length cap] 146) (hg : Blk w g cur 5) (hgb : g ≠ b) (hBg : B ≤ g) (h0 : l ≠ [])
    (hnc : l.length ≤ cap) (hcm : cap ≤ maxLen) (hcs : cur.size = cap) (hcell : ∀ j x, l[j]? = some x → w.cell? ((⟨g, 0, none⟩ : Addr).add j) = some (.int .u8 x.toNat)) :
    Calls Try.prog 87 #[.pointer (some ⟨b, 0, none⟩)] w fun e w' => e = .returned (.string (txt l)) ∧ Below B w w' ∧ BLen b l.length w' := by
  have hl0 : l.length ≠ 0 := by simpa using h0
  have c1 : w.drew.cell? ⟨b, 1, none⟩ = some (.slice (some ⟨g, 0, none⟩) l.length cap) := hbk.cell 1
  have hSD : (Builtin.unsafeSliceData_ #[47] 170 #[.slice (some ⟨g, 0, none⟩) l.length cap]).run Try.prog w.drew = .ok (.pointer (some ⟨g, 0, none⟩)) w.drew :=
    Lib.run_unsafeSliceData_row _ _ _ _ _ _ (by omega)
  have hUS : (Builtin.unsafeString_ #[170, 3] 9 #[.pointer (some ⟨g, 0, none⟩), .int .i64 l.length]).run Try.prog w.drew = .ok (.string (txt l)) (w.drew.freeze ⟨g, 0, none⟩ l.length) :=
    Lib.run_unsafeString_row w.drew 170 3 9 5 Try.underlying170 Try.cellsByte g cur.size (by have hg' : w.drew.heap[g]? = some (.cells cur 5 (0, 0)) := hg; simp [World.shape?, hg']) l h0 (by omega) (by unfold maxLen at hcm; omega) hcell
  have HBK := hd hbk
  clear hbk hg hcell hcs hcm hnc
  have mixed : Try.prog.follows .mixedOrders = true := by kernel_rfl
  go_enter Try.func87, Try.ntmps87
  go_wp2_with fail
  go_region_o
  all_goals (go_wp2_with fail; go_ret; exact ⟨rfl, Lib.below_freeze (Below.drew (Below.refl B w)) (p := ⟨g, 0, none⟩) hBg _, _, _, _, blk_freeze HBK.out.drew hgb⟩)

set_option maxHeartbeats 2000000 in
theorem btext_nil (B b : Nat) (p : Value) (w : World) (hbk : Blk w b #[p, .slice none 0 0] 146) :
    Calls Try.prog 87 #[.pointer (some ⟨b, 0, none⟩)] w fun e w' => e = .returned (.string ⟨#[]⟩) ∧ Below B w w' ∧ BLen b 0 w' := by
  have hUS : ∀ (W : World) (q : Option Addr), (Builtin.unsafeString_ #[170, 3] 9 #[.pointer q, .int .i64 0]).run Try.prog W = .ok (.string .empty) W := fun W q => Lib.run_unsafeString_none W _ _ _ q
  have c1 : w.drew.cell? ⟨b, 1, none⟩ = some (.slice none 0 0) := hbk.cell 1
  have hSD : (Builtin.unsafeSliceData_ #[47] 170 #[.slice none 0 0]).run Try.prog w.drew = .ok (.pointer none) w.drew := rfl
  have HBK := hd hbk
  clear hbk
  have mixed : Try.prog.follows .mixedOrders = true := by kernel_rfl
  go_enter Try.func87, Try.ntmps87
  go_wp2_with fail
  go_region_o
  all_goals (go_wp2_with fail; go_ret; exact ⟨rfl, Below.drew (Below.refl B w), _, _, _, HBK.out.drew⟩)

set_option maxHeartbeats 2000000 in
theorem btext_room (B b g cap : Nat) (p : Value) (w : World) (hc0 : cap ≠ 0) (hbk : Blk w b #[p, .slice (some ⟨g, 0, none⟩) 0 cap] 146) :
    Calls Try.prog 87 #[.pointer (some ⟨b, 0, none⟩)] w fun e w' => e = .returned (.string ⟨#[]⟩) ∧ Below B w w' ∧ BLen b 0 w' := by
  have hUS : ∀ (W : World) (q : Option Addr), (Builtin.unsafeString_ #[170, 3] 9 #[.pointer q, .int .i64 0]).run Try.prog W = .ok (.string .empty) W := fun W q => Lib.run_unsafeString_none W _ _ _ q
  have c1 : w.drew.cell? ⟨b, 1, none⟩ = some (.slice (some ⟨g, 0, none⟩) 0 cap) := hbk.cell 1
  have hSD : (Builtin.unsafeSliceData_ #[47] 170 #[.slice (some ⟨g, 0, none⟩) 0 cap]).run Try.prog w.drew = .ok (.pointer (some ⟨g, 0, none⟩)) w.drew :=
    Lib.run_unsafeSliceData_row _ _ _ _ _ _ hc0
  have HBK := hd hbk
  clear hbk hc0
  have mixed : Try.prog.follows .mixedOrders = true := by kernel_rfl
  go_enter Try.func87, Try.ntmps87
  go_wp2_with fail
  go_region_o
  all_goals (go_wp2_with fail; go_ret; exact ⟨rfl, Below.drew (Below.refl B w), _, _, _, HBK.out.drew⟩)

set_option maxHeartbeats 2000000 in
theorem btext_noroom (B b g : Nat) (p : Value) (cur : Array Value) (w : World) (hBw : B ≤ w.heap.size) (hbk : Blk w b #[p, .slice (some ⟨g, 0, none⟩) 0 0] 146) (hg : Blk w g cur 5) :
    Calls Try.prog 87 #[.pointer (some ⟨b, 0, none⟩)] w fun e w' => e = .returned (.string ⟨#[]⟩) ∧ Below B w w' ∧ BLen b 0 w' := by
  have hUS : ∀ (W : World) (q : Option Addr), (Builtin.unsafeString_ #[170, 3] 9 #[.pointer q, .int .i64 0]).run Try.prog W = .ok (.string .empty) W := fun W q => Lib.run_unsafeString_none W _ _ _ q
  have c1 : w.drew.cell? ⟨b, 1, none⟩ = some (.slice (some ⟨g, 0, none⟩) 0 0) := hbk.cell 1
  have hSD : (Builtin.unsafeSliceData_ #[47] 170 #[.slice (some ⟨g, 0, none⟩) 0 0]).run Try.prog w.drew = .ok (.pointer (some ⟨w.drew.heap.size, 0, none⟩)) (w.drew.alloc (.view ⟨g, 0, none⟩ 5)) :=
    Lib.run_unsafeSliceData_zero w.drew _ _ 5 Try.underlying170 ⟨g, 0, none⟩ 0 (5, cur.size) (by have hg' : w.drew.heap[g]? = some (.cells cur 5 (0, 0)) := hg; simp [World.shape?, hg'])
  have c2 : (w.drew.alloc (.view ⟨g, 0, none⟩ 5)).cell? ⟨b, 1, none⟩ = some (.slice (some ⟨g, 0, none⟩) 0 0) := (hbk.drew.alloc _).cell 1
  have c3 : (w.alloc (.view ⟨g, 0, none⟩ 5)).drew.cell? ⟨b, 1, none⟩ = some (.slice (some ⟨g, 0, none⟩) 0 0) := c2
  have c0 : w.cell? ⟨b, 1, none⟩ = some (.slice (some ⟨g, 0, none⟩) 0 0) := c1
  have HBK := hd hbk
  clear hbk hg
  have mixed : Try.prog.follows .mixedOrders = true := by kernel_rfl
  go_enter Try.func87, Try.ntmps87
  go_wp2_with fail
  go_region_o
  all_goals (go_wp2_with fail; go_ret; exact ⟨rfl, (Below.drew (Below.refl B w)).alloc hBw _, _, _, _, HBK.out.drew.alloc _⟩)

theorem btext_any (B b : Nat) (l : List UInt8) (w : World) (h : BldAt B b l w) (hBw : B ≤ w.heap.size) :
    Calls Try.prog 87 #[.pointer (some ⟨b, 0, none⟩)] w fun e w' => e = .returned (.string (txt l)) ∧ Below B w w' ∧ BLen b l.length w' := by
  obtain ⟨p, hB, v, hbk, hown, hne⟩ : ∃ p, Lib.BuilderAt 146 5 B b p (Lib.byteCells l) w := by
    rcases h with h | h
    · exact ⟨_, h⟩
    · exact ⟨_, h⟩
  rw [Lib.byteCells_length] at hown
  by_cases h0 : l = []
  · subst h0
    rcases hown.2 with ⟨rfl, _⟩ | ⟨g, cap, cur, rfl, hBg, hg, hnc, hcm, hcs, htake⟩
    · exact btext_nil B b p w hbk
    · by_cases hc0 : cap = 0
      · subst hc0
        exact btext_noroom B b g p cur w hBw hbk hg
      · exact btext_room B b g cap p w hc0 hbk
  · have hl0 : l.length ≠ 0 := by simpa using h0
    rcases hown.2 with ⟨_, hz⟩ | ⟨g, cap, cur, rfl, hBg, hg, hnc, hcm, hcs, htake⟩
    · exact absurd hz hl0
    · refine btext_row B b g cap p cur l w hbk hg (fun e => hne (by rw [e]; rfl)) hBg h0 hnc hcm (by simpa using hcs) ?_
      intro j x hx
      exact hown.cells (g := g) rfl j (.int .u8 x.toNat) (by simp [Lib.byteCells, hx])
end Go.Proofs.Ytjaoiaknglnomaa

/-
  Log.Rewrite, walked: the next generation's file, the mark, then the old file emptied. Conditions: records of sizes that there are.
-/
set_option linter.unusedVariables false
set_option linter.unusedSimpArgs false
set_option maxRecDepth 100000
namespace Go.Proofs.Ytjaoiaknglnomaa
open Go.RowKit

theorem replace_fine (d : DiskS) (f : Int) (s : ByteArray) (h : d.fine) (hs : s.size ≤ 1099511627776) : (d.replaceIt f s).2.fine := by
  unfold DiskS.replaceIt
  split
  · exact sync_fine _ f (put_fine d f s h hs)
  · exact put_fine d f s h hs
theorem writeIt_fine (d : DiskS) (f ver : Nat) (s : List UInt8) (h : d.fine) (hs : s.length ≤ 1000000) : (d.writeIt f ver s).2.1.fine := by
  unfold DiskS.writeIt
  split
  · exact h
  · split
    · exact lay_fine d f _ s h hs
    · split
      · exact lay_fine _ _ _ s (lay_fine d f _ s h hs) hs
      · exact lay_fine _ _ _ s (lay_fine d f _ s h hs) hs

/-- Behind the mark's write. -/
def walRw2 (q : Int × DiskS × Nat) (l : LogS) (L : List (List UInt8)) : Int × DiskS × LogS × Nat :=
  if q.1 = 0 then ((q.2.1.replaceIt ((l.gen % 2 : Nat) : Int) ⟨#[]⟩).1, (q.2.1.replaceIt ((l.gen % 2 : Nat) : Int) ⟨#[]⟩).2, ⟨l.gen + 1, (encL (l.gen + 1) L).length, L.length, false⟩, q.2.2)
  else (q.1, q.2.1, l, q.2.2)
/-- Behind the new file's replacement. -/
def walRw1 (r : Int × DiskS) (l : LogS) (ver : Nat) (L : List (List UInt8)) : Int × DiskS × LogS × Nat :=
  if r.1 = 0 then walRw2 (r.2.writeIt 2 ver (markB (l.gen + 1) (encL (l.gen + 1) L).length)) l L else (r.1, r.2, l, ver)
/-- What Rewrite answers, and leaves: the disk, the log, the mark's version. -/
def walRewrite (d : DiskS) (l : LogS) (ver : Nat) (L : List (List UInt8)) : Int × DiskS × LogS × Nat :=
  walRw1 (d.replaceIt (((l.gen + 1) % 2 : Nat) : Int) (txt (encL (l.gen + 1) L))) l ver L

set_option maxHeartbeats 8000000 in
theorem wrewrite_any (d : DiskS) (l : LogS) (ver : Nat) (L : List (List UInt8)) (v : Value) (Bs kl kc bd : Nat) (w : World) (hd' : DiskAt w bd d) (h : LogAt w kl kc bd l) (hC : CellAt w kc bd 2 ver) (hv : StrRow Bs w v L) (hf : d.fine)
    (hg : l.gen + 1 < 18446744073709551616) (hvr : ver < 1099511627776) (hl : ∀ t ∈ L, t.length ≤ 262144) (hn : L.length ≤ 100000) (hB : (encL (l.gen + 1) L).length ≤ 1099511627776) :
    Calls Try.prog 65 #[.pointer (some ⟨kl, 0, none⟩), v] w fun x w' => x = .returned (.int .i64 (walRewrite d l ver L).1) ∧ Upd [bd, kl, kc] w w' ∧ DiskAt w' bd (walRewrite d l ver L).2.1 ∧ LogAt w' kl kc bd (walRewrite d l ver L).2.2.1 ∧ CellAt w' kc bd 2 (walRewrite d l ver L).2.2.2 := by
  have hne : kl ≠ bd := blk_ne h hd' (by decide)
  have hne2 : kc ≠ bd := blk_ne hC hd' (by decide)
  have hne3 : kl ≠ kc := blk_ne h hC (by decide)
  have hbl := hd'.lt
  have hkl := h.lt
  have hcl := hC.lt
  have HX0 := hd (show walRewrite d l ver L = walRw1 (d.replaceIt (((l.gen + 1) % 2 : Nat) : Int) (txt (encL (l.gen + 1) L))) l ver L from rfl)
  have HD := hd hd'
  have HL := hd h
  have HC := hd hC
  have HV := hd hv
  have HLL := hd hl
  have hc := h.cell
  obtain ⟨a, cap, rfl, hnc, hcm, -⟩ := own_open hv
  clear h hd' hC hv hl
  obtain ⟨gen, size, recs, loose⟩ := l
  simp only at *
  have hwg : IntKind.u64.wrap ((gen : Int) + 1) = (gen : Int) + 1 := by rw [IntKind.wrap_u64]; omega
  have HSP := hd (show ∀ W (t : List UInt8), t.length ≤ 262144 → Calls Try.prog 66 #[.int .u64 ((gen : Int) + 1), .string (txt t)] W fun x w' => x = .returned (.string (txt (spellL (gen + 1) t))) ∧ Upd [] W w' from fun W t ht => by
    have h := wspell_any (gen + 1) t W hg (by omega)
    rwa [Int.natCast_add, Int.natCast_one] at h)
  have HWF := hd (show ∀ W, Calls Try.prog 63 #[.int .u64 ((gen : Int) + 1)] W fun x w' => x = .returned (.int .i64 (((gen + 1) % 2 : Nat) : Int)) ∧ W = w' from fun W => by
    have h := wfile_any (gen + 1) W hg
    rwa [Int.natCast_add, Int.natCast_one] at h)
  have HWF2 := hd (fun W => wfile_any gen W (by omega))
  have HMK := hd (show ∀ W, Calls Try.prog 67 #[.int .u64 ((gen : Int) + 1), .int .i64 (encL (gen + 1) L).length] W fun x w' => x = .returned (.string (txt (markB (gen + 1) (encL (gen + 1) L).length))) ∧ Upd [] W w' from fun W => by
    have h := wspellMark_any (gen + 1) (encL (gen + 1) L).length W hg (by omega)
    rwa [Int.natCast_add, Int.natCast_one] at h)
  have HLE := hd (fun t => enc_take_le (gen + 1) L t)
  have e0 : ∃ W k, w.heap.size = k ∧ w.alloc (.cells #[.pointer none, .slice none 0 0] 146) = W ∧ Below w.heap.size w W ∧ BldAt w.heap.size k [] W := ⟨_, _, rfl, rfl, (Below.refl _ w).alloc (Nat.le_refl _) _, Lib.fresh_isBuilder _ _ w⟩
  go_enter Try.func65, Try.ntmps65
  go_upto_region 2 with fail
  obtain ⟨W0, b, hb, hW0, hb0, hbld⟩ := e0
  rw [hW0, hb]
  have hbw : w.heap.size ≤ b := by omega
  clear hW0 hb
  have HB0 := hd hb0
  have HBD := hd hbld
  clear hb0 hbld
  go_upto_block 0 with fail
  go_cut [] (fun wx => Below w.heap.size w wx ∧ BldAt w.heap.size b (encL (gen + 1) L) wx)
  case first =>
    go_wp2_with fail
    go_loopw [13] (fun c wr => ∃ t : Nat, c = .int .i64 t ∧ t ≤ L.length ∧ Below w.heap.size w wr ∧ BldAt w.heap.size b (encL (gen + 1) (L.take t)) wr) (fun c _ => L.length - (intOf c).toNat)
    case atStart => exact ⟨0, rfl, by omega, HB0.out, HBD.out⟩
    case round =>
      obtain ⟨t, rfl, ht, hbl', hbd'⟩ := hrel
      have HB1 := hd hbl'
      have HBD1 := hd hbd'
      clear hc hbl' hbd' HB0 HBD
      by_cases htn : t < L.length
      · have htn' : (t : Int) < (L.length : Int) := by omega
        have hU := Upd.of_below HB1.out []
        obtain ⟨g, cap', hge, hgB, hgl, -, hgc, hgz⟩ := own_cases (own_upd HV.out hU (by simp)) (by omega)
        simp only [Value.slice.injEq] at hge
        obtain ⟨rfl, -, rfl⟩ := hge
        have c0 := hgc t (by omega)
        have hlt := HLL.out L[t] (List.getElem_mem _)
        have HTK := hd (enc_take_succ (gen + 1) L t htn)
        have hle := HLE.out (t + 1)
        rw [HTK.out, List.length_append] at hle
        simp only [strVals, List.getElem?_map, List.getElem?_eq_getElem htn, Option.map_some] at c0
        have hc := (HL.out.upd hU (by simp)).cell
        clear hgc hgz hU
        generalize L[t]'_ = T at *
        generalize encL (gen + 1) (L.take t) = PRE at *
        have hBw := HB1.out.size
        have ht5 : ¬ ((262144 : Int) < (T.length : Int)) := by omega
        go_wp2_with fail
        refine (HSP.out _ T hlt).mono ?_
        rintro x w2 ⟨rfl, hu2⟩
        have HB2 := hd (hu2.below HB1.out.size (by simp))
        have hs2 := hu2.size
        have HBD2 := hd (show BldAt w.heap.size b PRE w2 from by
          rcases HBD1.out with ⟨h1, vv, h2, h3, h4⟩ | ⟨h1, vv, h2, h3, h4⟩
          · exact .inl ⟨h1, vv, Blk.upd h2 hu2 (by simp), own_upd h3 hu2 (by simp), h4⟩
          · exact .inr ⟨h1, vv, Blk.upd h2 hu2 (by simp), own_upd h3 hu2 (by simp), h4⟩)
        clear hu2 hc c0
        go_wp2_with fail
        refine (bwrite_any w.heap.size b PRE (spellL (gen + 1) T) w2 HBD2.out (by omega) (by omega)).mono ?_
        rintro x w3 ⟨rfl, hbd3, hb3⟩
        have HB3 := hd ((HB1.out.trans HB2.out).trans hb3)
        have HBD3 := hd hbd3
        clear hbd3 hb3
        go_wp2_with fail
        go_roundw
        case rel => exact ⟨t + 1, by go_num, by omega, HB3.out, by rw [HTK.out]; exact HBD3.out⟩
        case measure => simp [intOf]; omega
      · obtain rfl : t = L.length := by omega
        rw [List.take_length] at HBD1
        go_wp2_with fail
        go_meet
        case rel => exact ⟨HB1.out, HBD1.out⟩
  case rest =>
    obtain ⟨hb1, hbd1⟩ := hcut
    have HB1 := hd hb1
    have HL1 := hd (HL.out.upd (Upd.of_below hb1 []) (by simp))
    have HBD1 := hd hbd1
    have hs1 := hb1.size
    clear hc hb1 hbd1 HB0 HBD HSP HLE HLL HV
    have hc := HL1.out.cell
    have hbt : (txt (encL (gen + 1) L)).size ≤ 1099511627776 := by rw [txt_size]; exact hB
    have HMB := hd (markB_le (gen + 1) (encL (gen + 1) L).length)
    have HX := hd HX0.out
    clear HX0
    unfold walRw1 walRw2 at HX
    simp only at HX
    generalize encL (gen + 1) L = E at *
    generalize markB (gen + 1) E.length = M at *
    have hg2 : (gen + 1) % 2 < 2 := Nat.mod_lt _ (by omega)
    have hg3 : gen % 2 < 2 := Nat.mod_lt _ (by omega)
    generalize (gen + 1) % 2 = m at *
    generalize gen % 2 = m2 at *
    have HRP := hd (fun W (h1 : DiskAt W bd d) (h2 : LogAt W kl kc bd ⟨gen, size, recs, loose⟩) => wreplace_any d (m : Int) (txt E) kl kc bd _ W h1 h2 hf hbt)
    have hrf := replace_fine d (m : Int) (txt E) hf hbt
    generalize d.replaceIt (m : Int) (txt E) = r at *
    obtain ⟨e, D⟩ := r
    simp only at HX HRP hrf
    have HWR := hd (fun W (h1 : DiskAt W bd D) (h2 : CellAt W kc bd 2 ver) => cwrite_any D 2 ver M kc bd W h1 h2 hrf (by decide) (by decide) hvr (by have := HMB.out; omega))
    have hwf := writeIt_fine D 2 ver M hrf (by have := HMB.out; omega)
    have hwf : (D.writeIt 2 ver M).2.1.fine := hwf
    generalize D.writeIt 2 ver M = q at *
    obtain ⟨e2, D2, v2⟩ := q
    simp only at HX HWR hwf
    have HRP2 := hd (fun W l' (h1 : DiskAt W bd D2) (h2 : LogAt W kl kc bd l') => wreplace_any D2 (m2 : Int) ⟨#[]⟩ kl kc bd l' W h1 h2 hwf (by decide))
    generalize D2.replaceIt (m2 : Int) ⟨#[]⟩ = r3 at *
    obtain ⟨e3, D3⟩ := r3
    simp only at HX HRP2
    clear hrf hwf hbt hf
    go_wp2_with fail
    refine (HWF.out _).mono ?_
    rintro x w2 ⟨rfl, rfl⟩
    have HBT := btext_any w.heap.size b E _ HBD1.out (by omega)
    go_wp2_with fail
    refine HBT.mono ?_
    rintro x w3 ⟨rfl, hb3, hbl3⟩
    have hU := Upd.of_below (HB1.out.trans hb3) []
    have HU3 := hd hU
    have HL3 := hd (HL.out.upd hU (by simp))
    have HD3 := hd (HD.out.upd hU (by simp))
    have HC3 := hd (HC.out.upd hU (by simp))
    have HBL3 := hd hbl3
    clear HBT hc hU hb3 hbl3 HB1 HL1 HBD1 HL HD HC
    go_wp2_with fail
    refine (HRP.out _ HD3.out HL3.out).mono ?_
    rintro x w4 ⟨rfl, hu4, hd4⟩
    have HU4 := hd ((HU3.out.mono (by simp)).trans hu4)
    have HL4 := hd (HL3.out.upd hu4 (by simpa using hne))
    have HC4 := hd (HC3.out.upd hu4 (by simpa using hne2))
    have HD4 := hd hd4
    have HBL4 := hd (show BLen b E.length w4 from by
      obtain ⟨p, ao, cp, hh⟩ := HBL3.out
      exact ⟨p, ao, cp, hh.upd hu4 (by simp; omega)⟩)
    clear hu4 hd4 HU3 HL3 HD3 HC3 HBL3 HRP
    by_cases he : e = 0
    · have he' : (e != 0) = false := by simp [he]
      have HZ := hd (HX.out.trans (if_pos he))
      clear he HX
      have hc := HL4.out.cell
      go_upto_region 12 with fail
      go_cut [9] (fun s9 wx => s9 = .int .i64 e2 ∧ Upd [bd, kl, kc] w wx ∧ DiskAt wx bd D2 ∧ LogAt wx kl kc bd ⟨gen, size, recs, loose⟩ ∧ CellAt wx kc bd 2 v2 ∧ BLen b E.length wx)
      case first =>
        have HKS := hd (show ∀ W, LogAt W kl kc bd ⟨gen, size, recs, loose⟩ → ∀ o, W.cell? ⟨kl, o, none⟩ = #[.pointer (some ⟨bd, 0, none⟩), .pointer (some ⟨kc, 0, none⟩), .int .u64 gen, .int .i64 size, .int .i64 recs, .bool loose][o]? from fun W h => h.cell)
        have HLN := hd (show ∀ W, Upd [] w4 W → Calls Try.prog 88 #[.pointer (some ⟨b, 0, none⟩)] W fun x w' => x = .returned (.int .i64 E.length) ∧ W = w' from fun W hu => by
          obtain ⟨p, ao, cp, hh⟩ := HBL4.out
          exact blen_any b E.length W ⟨p, ao, cp, hh.upd hu (by simp)⟩)
        have HMKU := hd (show ∀ W, Upd [] w4 W → Calls Try.prog 67 #[.int .u64 ((gen : Int) + 1), .int .i64 E.length] W fun x w' => x = .returned (.string (txt M)) ∧ Upd [] w4 w' from fun W hu =>
          (HMK.out W).mono (by rintro x w' ⟨rfl, hu'⟩; exact ⟨rfl, hu.trans hu'⟩))
        have HWRU := hd (show ∀ W, Upd [] w4 W → Calls Try.prog 27 #[.pointer (some ⟨kc, 0, none⟩), .string (txt M)] W fun x w' => x = .returned (.int .i64 e2) ∧ Upd [bd, kc] w4 w' ∧ DiskAt w' bd D2 ∧ CellAt w' kc bd 2 v2 from fun W hu =>
          (HWR.out W (HD4.out.upd hu (by simp)) (HC4.out.upd hu (by simp))).mono (by rintro x w' ⟨rfl, hu', h1, h2⟩; exact ⟨rfl, (hu.mono (by simp)).trans hu', h1, h2⟩))
        have HL4U := hd (show ∀ W, Upd [bd, kc] w4 W → LogAt W kl kc bd ⟨gen, size, recs, loose⟩ from fun W hu => HL4.out.upd hu (by simp [hne, hne3]))
        go_region_held3 (fun W => ∀ o, W.cell? ⟨kl, o, none⟩ = #[.pointer (some ⟨bd, 0, none⟩), .pointer (some ⟨kc, 0, none⟩), .int .u64 gen, .int .i64 size, .int .i64 recs, .bool loose][o]?)
          ((refine HKS.out _ (HL4U.out _ ?_); first | with_reducible exact Upd.refl _ _ | with_reducible exact (Upd.refl _ _).drew | with_reducible exact HU7.out | with_reducible exact HU6.out.mono (by simp)))
          (first
          | ((with_reducible refine (HLN.out _ (by first | with_reducible exact Upd.refl _ _ | with_reducible exact (Upd.refl _ _).drew)).mono ?_); rintro x w5 ⟨rfl, rfl⟩)
          | ((with_reducible refine (HMKU.out _ (by first | with_reducible exact Upd.refl _ _ | with_reducible exact (Upd.refl _ _).drew)).mono ?_); rintro x w6 ⟨rfl, hu6⟩; have HU6 := hd hu6; clear hu6)
          | ((with_reducible refine (HWRU.out _ HU6.out).mono ?_); rintro x w7 ⟨rfl, hu7, hd7, hc7⟩; have HU7 := hd hu7; have HD7 := hd hd7; have HC7 := hd hc7; clear hu7 hd7 hc7)
          | fail "no arm")
        all_goals
          go_wp2_with fail
          go_meet
          case rel =>
            exact ⟨rfl, (HU4.out.mono (by simp)).trans (HU7.out.mono (by simp)), HD7.out, HL4U.out _ HU7.out, HC7.out, by
              obtain ⟨p, ao, cp, hh⟩ := HBL4.out
              exact ⟨p, ao, cp, hh.upd HU7.out (by simp; omega)⟩⟩
      case rest =>
        obtain ⟨rfl, hu, hD, hL, hC, hBl⟩ := hcut
        have HU5 := hd hu
        have HD5 := hd hD
        have HL5 := hd hL
        have HC5 := hd hC
        have HBL5 := hd hBl
        clear hc hu hD hL hC hBl HU4 HL4 HC4 HD4 HBL4 HWR HMK
        by_cases he2 : e2 = 0
        · have he2' : (e2 != 0) = false := by simp [he2]
          have HZ2 := hd (HZ.out.trans (if_pos he2))
          clear he2 HZ
          have hc := HL5.out.cell
          have hz := HL5.out.frozen
          have e16 : ∃ W6, wc.setCell ⟨kl, 2, none⟩ (.int .u64 ((gen : Int) + 1)) = W6 ∧ Upd [kl] wc W6 ∧ LogAt W6 kl kc bd ⟨gen + 1, size, recs, loose⟩ := ⟨_, rfl, (Upd.refl _ _).setCell (by simp) _, by
            have h := HL5.out.set 2 (.int .u64 ((gen : Int) + 1))
            have e : ((gen + 1 : Nat) : Int) = (gen : Int) + 1 := by omega
            show Blk _ _ #[_, _, .int .u64 ((gen + 1 : Nat) : Int), _, _, _] _
            rw [e]
            exact h⟩
          go_upto_region 15 with fail
          go_wp2_with fail
          refine (HWF2.out _).mono ?_
          rintro x w6 ⟨rfl, rfl⟩
          go_upto_region 17 with fail
          obtain ⟨W6, hW6, hu6, hl6⟩ := e16
          rw [hW6]
          have HL6 := hd hl6
          have HD6 := hd (HD5.out.upd hu6 (by simpa using Ne.symm hne))
          have HC6 := hd (HC5.out.upd hu6 (by simpa using Ne.symm hne3))
          have HU6 := hd (HU5.out.trans (hu6.mono (by simp)))
          have hbl6 : BLen b E.length W6 := by
            obtain ⟨p, ao, cp, hh⟩ := HBL5.out
            exact ⟨p, ao, cp, hh.upd hu6 (by simp; omega)⟩
          clear hW6 hc hz hu6 hl6 HU5 HD5 HL5 HC5 HBL5
          have hc := HL6.out.cell
          have hz := HL6.out.frozen
          have e17 : ∃ W7, ((W6.setCell ⟨kl, 3, none⟩ (.int .i64 E.length)).setCell ⟨kl, 4, none⟩ (.int .i64 L.length)).setCell ⟨kl, 5, none⟩ (.bool false) = W7 ∧ Upd [kl] W6 W7 ∧ LogAt W7 kl kc bd ⟨gen + 1, E.length, L.length, false⟩ :=
            ⟨_, rfl, (((Upd.refl _ _).setCell (by simp) _).setCell (by simp) _).setCell (by simp) _, ((HL6.out.set 3 _).set 4 _).set 5 _⟩
          go_wp2_with fail
          refine (blen_any b E.length W6 hbl6).mono ?_
          rintro x w7 ⟨rfl, rfl⟩
          clear hbl6
          go_upto_region 18 with fail
          obtain ⟨W7, hW7, hu7, hl7⟩ := e17
          rw [hW7]
          have HL7 := hd hl7
          have HD7 := hd (HD6.out.upd hu7 (by simpa using Ne.symm hne))
          have HC7 := hd (HC6.out.upd hu7 (by simpa using Ne.symm hne3))
          have HU7 := hd (HU6.out.trans (hu7.mono (by simp)))
          clear hW7 hc hz hu7 hl7 HL6 HD6 HC6 HU6
          go_wp2_with fail
          refine (HRP2.out W7 _ HD7.out HL7.out).mono ?_
          rintro x w8 ⟨rfl, hu8, hd8⟩
          go_wp2_with fail
          go_ret
          rw [HZ2.out]
          exact ⟨rfl, HU7.out.trans (hu8.mono (by simp)), hd8, HL7.out.upd hu8 (by simpa using hne), HC7.out.upd hu8 (by simpa using hne2)⟩
        · have he2' : (e2 != 0) = true := by simpa using he2
          have HZ2 := hd (HZ.out.trans (if_neg he2))
          clear he2
          go_wp2_with fail
          go_ret
          rw [HZ2.out]
          exact ⟨rfl, HU5.out, HD5.out, HL5.out, HC5.out⟩
    · have he' : (e != 0) = true := by simpa using he
      have HZ := hd (HX.out.trans (if_neg he))
      clear he
      go_wp2_with fail
      go_ret
      rw [HZ.out]
      exact ⟨rfl, HU4.out.mono (by simp), HD4.out, HL4.out, HC4.out⟩
end Go.Proofs.Ytjaoiaknglnomaa
