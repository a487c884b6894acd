/-
  Package accept: Clone of entries, List, Clone, Prepare, walked. Conditions: those that each theorem states.
-/
import Derived.Test.YtfhmdeamhmjddaaBm2
import Derived.Laws.IdiomCopy
import Derived.Lib.AppendZeros
import Derived.Lib.AppendZerosOnto
import Derived.Lib.Overlaps
import Derived.Lib.SliceRun
import Derived.Laws.NewBlocks
set_option linter.unusedVariables false
set_option linter.unusedSimpArgs false
set_option maxRecDepth 100000
namespace Go.Proofs.Ytfhmdeamhmjddaa
open Go.RowKit

/-- A slice of entries, wherever its cells lie. -/
def EntsAt (w : World) (v : Value) (ys : List EntS) : Prop :=
  ∃ a cap, v = .slice a ys.length cap ∧ (a = none → ys = []) ∧ (∀ b, a = some b → ∀ j u, (entCells ys)[j]? = some u → w.cell? (b.add j) = some u)

theorem own_entsAt {w : World} {B T : Nat} {v : Value} {ys : List EntS} (h : w.ownsRow B T 4 v ys.length (entCells ys)) : EntsAt w v ys := by
  obtain ⟨hl, h⟩ := h
  rcases h with ⟨rfl, hn⟩ | ⟨g, cap, cur, rfl, hb, hg, hnc, hcm, hcs, ht⟩
  · obtain rfl : ys = [] := List.eq_nil_of_length_eq_zero hn
    exact ⟨none, 0, rfl, fun _ => rfl, fun b hb => (nomatch hb)⟩
  · refine ⟨_, cap, rfl, fun h => (nomatch h), fun b hb j u hj => ?_⟩
    cases hb
    have hjl : j < (entCells ys).length := (List.getElem?_eq_some_iff.1 hj).1
    rw [Addr.add_lit, Nat.zero_add, Blk.cell hg j, ← hj, ← ht, List.getElem?_take, if_pos (by rw [entCells_length] at hjl; exact hjl)]
    simp
theorem entsAt_upd {L : List Nat} {w w' : World} {v : Value} {ys : List EntS} (h : EntsAt w v ys) (hu : Upd L w w') (hL : ∀ g, v.ownBlock = some g → g ∉ L) : EntsAt w' v ys := by
  obtain ⟨a, cap, rfl, h1, h2⟩ := h
  refine ⟨a, cap, rfl, h1, fun b hb j u hj => ?_⟩
  subst hb
  have hc := h2 b rfl j u hj
  have hbl : (b.add j).block < w.heap.size := World.block_lt_of_cell? w _ hc
  rw [← hc]
  refine World.cell?_of_block (hu.block _ hbl ?_)
  have : (b.add j).block = b.block := by unfold Addr.add; split <;> rfl
  rw [this]
  exact hL _ rfl

theorem one_cells (l : List EntS) : ∀ u ∈ entCells l, u.oneCell' = true := by
  intro u hu
  simp only [entCells, List.mem_flatMap, EntS.cells] at hu
  obtain ⟨e, _, hu⟩ := hu
  simp at hu
  rcases hu with rfl | rfl | rfl | rfl <;> rfl

theorem Try.infoEnt : (Try.prog.info? 85).map (fun i => (i.zero, i.size, i.bytes)) = some (some (.agg #[.int .i64 0, .int .u64 0, .int .i64 0, .string ⟨#[]⟩]), 4, 40) := by kernel_rfl

set_option maxHeartbeats 1000000 in
theorem eclone_any (v : Value) (ys : List EntS) (w : World) (h : EntsAt w v ys) (hl : ys.length ≤ 1024) :
    Calls Try.prog 41 #[v] w fun r w' =>
      ∃ v', r = .returned v' ∧ Upd [] w w' ∧ w'.ownsRow w.heap.size 85 4 v' ys.length (entCells ys) := by
  obtain ⟨i0, hinf, hz0, hz1, hz2⟩ := info_parts Try.infoEnt
  obtain ⟨a, cap, rfl, hn, hb⟩ := h
  cases a with
  | none =>
    obtain rfl := hn rfl
    clear hb
    go_enter Try.func41, Try.ntmps41
    have hel := fun W => Lib.run_eql_slice_nil (P := Try.prog) W 39 85 none 0 cap 0 0 Try.underlying39
    go_wp2_with fail
    go_ret
    exact ⟨_, rfl, Upd.refl _ _, World.ownsRow_nil _ _ _ _⟩
  | some b =>
    have HB := hd (hb b rfl)
    clear hb hn
    have hlen := entCells_length ys
    have h1 := hd (one_cells ys)
    generalize entCells ys = cs at *
    have HL := hd hlen
    clear hlen
    have hel := fun W => Lib.run_eql_slice_nil (P := Try.prog) W 39 85 (some b) ys.length cap 0 0 Try.underlying39
    go_enter Try.func41, Try.ntmps41
    go_wp2_with (at_builtin; refine wpList_append_own_at _ rfl (.tmp 5) (.tmp 6) 39 rfl w.heap.size 85 i0 _ 4 40 Try.underlying39 hinf hz0 hz1 hz2 rfl (by decide) _ 0 [] rfl ?c1 b ys.length cap cs rfl HL.out ?c2 h1.out ?c4 ?c5 ?c6 ?_)
    case c1 => exact ⟨rfl, .inr ⟨w.heap.size, 0, #[], rfl, by omega, Blk.new _ _ _, by omega, by unfold maxLen; omega, rfl, rfl⟩⟩
    case c2 => exact fun j u hj => Lib.cell?_alloc_some _ (HB.out j u hj)
    case c4 => unfold maxLen; omega
    case c5 => omega
    case c6 => simp
    intro v' w' hown hgr _ hblk
    have hu := Upd.of_grown hgr
    have HU := hd (show Upd [] w w' from ((Upd.refl [] w).alloc _).trans' hu (by simp [Value.ownBlock]))
    have HO := hd hown
    clear hown hgr hblk hu
    go_wp2_with fail
    go_ret
    exact ⟨v', rfl, HU.out, by simpa using HO.out⟩

theorem list_any (B b : Nat) (l : Value) (d : AccS) (w : World) (h : AccAt B w b l d) (hl : d.list.length ≤ 1024) :
    Calls Try.prog 20 #[.pointer (some ⟨b, 0, none⟩)] w fun r w' =>
      ∃ v', r = .returned v' ∧ Upd [] w w' ∧ w'.ownsRow w.heap.size 85 4 v' d.list.length (entCells d.list) := by
  have hc := h.blk.cell
  have hlt := h.blk.lt
  have H := hd h
  simp only [AccS.cells] at hc
  clear h
  go_enter Try.func20, Try.ntmps20
  go_wp2_with ((with_reducible refine (eclone_any l d.list _ (own_entsAt H.out.own) hl).mono ?_); rintro e w' ⟨v', rfl, hu, ho⟩; have HU := hd hu; have HO := hd ho; clear hu ho)
  go_ret
  exact ⟨v', rfl, HU.out, HO.out⟩

theorem own_one {w : World} {B T sz : Nat} {v : Value} {n : Nat} {xs : List Value} (h : w.ownsRow B T sz v n xs) : v.oneCell' = true := by
  obtain ⟨a, cap, rfl, _⟩ := own_open h
  rfl

theorem own_ge {w : World} {B T sz : Nat} {v : Value} {n : Nat} {xs : List Value} (h : w.ownsRow B T sz v n xs) : ∀ g, v.ownBlock = some g → B ≤ g ∧ g < w.heap.size := by
  intro g hg
  rcases h.2 with he | ⟨g', cap, cur, he, hb, hg', _⟩
  · rw [he.1] at hg; cases hg
  · rw [he] at hg
    simp only [Value.ownBlock, Option.some.injEq] at hg
    subst hg
    exact ⟨hb, Blk.lt hg'⟩

theorem aclone_any (B b : Nat) (l : Value) (d : AccS) (w : World) (h : AccAt B w b l d) (hl : d.list.length ≤ 1024) :
    Calls Try.prog 23 #[.pointer (some ⟨b, 0, none⟩)] w fun r w' =>
      ∃ b' l', r = .returned (.pointer (some ⟨b', 0, none⟩)) ∧ w.heap.size ≤ b' ∧ Upd [] w w' ∧ AccAt w.heap.size w' b' l' d := by
  obtain ⟨a, cap, rfl, -⟩ := own_open h.own
  have hc := h.blk.cell
  have hlt := h.blk.lt
  have H := hd h
  simp only [AccS.cells] at hc
  clear h
  go_enter Try.func23, Try.ntmps23
  go_wp2_with ((with_reducible refine (eclone_any _ d.list _ (own_entsAt (own_upd (L := []) H.out.own ((Upd.refl _ _).alloc _) (by simp))) hl).mono ?_); rintro e w' ⟨v', rfl, hu, ho⟩; obtain ⟨a', cap', rfl, -⟩ := own_open ho; have hbn := Blk.upd (Blk.new _ _ _) hu (by simp); have hcn := hbn.cell; have hzn := hbn.frozen; have HBN := hd hbn; have HU := hd hu; have HO := hd ho; clear hu ho hbn)
  go_ret
  refine ⟨_, _, rfl, Nat.le_refl _, ?_, ⟨HBN.out.set 4 _, ?_⟩⟩
  · exact (((Upd.refl [] w).alloc _).trans HU.out).setCell (.inr (Nat.le_refl _)) _
  · have ho := own_mono HO.out (B' := w.heap.size) (by simp)
    exact own_upd (L := [w.heap.size]) ho ((Upd.refl _ _).setCell (by simp) _) (fun g hg => by
      have := (own_ge HO.out g hg).1
      simp at this ⊢
      omega)

end Go.Proofs.Ytfhmdeamhmjddaa

/-
  accept.Acceptor.Prepare, walked. Conditions: an acceptor whose numbers and entries are as they may be.
-/
set_option linter.unusedVariables false
set_option linter.unusedSimpArgs false
set_option maxRecDepth 100000
namespace Go.Proofs.Ytfhmdeamhmjddaa
open Go.RowKit

/-- An acceptor as it may be. -/
structure AccS.fine (d : AccS) : Prop where
  sorted : SortedE d.list
  base0 : 0 ≤ d.base
  base1 : d.base ≤ 1099511627776
  node0 : 0 ≤ d.node
  node1 : d.node ≤ 1099511627776
  til0 : 0 ≤ d.til
  til1 : d.til ≤ 1099511627776
def TimeIn (z : Int) : Prop := 0 ≤ z ∧ z ≤ 1099511627776
/-- What Prepare does: the state, the message, its entries, whether anything turned. -/
def AccS.prepare (d : AccS) (m : MsgS) (now : Int) : AccS × MsgS × List EntS × Bool :=
  if d.others m.frm now = true then (d, { kind := 5, bal := d.bal, time := d.til - now }, [], false)
  else if d.low m.bal = true then (d, { kind := 5, bal := d.bal }, [], false)
  else ({ d with bal := m.bal }, { kind := 2, bal := m.bal, slot := d.base }, d.list.drop (aheadOf d.list m.slot), !(d.bal.c == m.bal.c && d.bal.n == m.bal.n))

theorem aheadOf_le (l : List EntS) (n : Int) : aheadOf l n ≤ l.length := (List.takeWhile_prefix _).length_le
theorem entCells_split (l : List EntS) (i : Nat) : entCells l = entCells (l.take i) ++ entCells (l.drop i) := by
  have : entCells (l.take i ++ l.drop i) = entCells (l.take i) ++ entCells (l.drop i) := List.flatMap_append
  rw [← this, List.take_append_drop]
theorem entCells_drop (l : List EntS) (i : Nat) (hi : i ≤ l.length) : entCells (l.drop i) = (entCells l).drop (i * 4) := by
  have h : (entCells (l.take i)).length = i * 4 := by rw [entCells_length, List.length_take, Nat.min_eq_left hi]
  rw [entCells_split l i, ← h, List.drop_left]
theorem entCells_take (l : List EntS) (i : Nat) (hi : i ≤ l.length) : entCells (l.take i) = (entCells l).take (i * 4) := by
  have h : (entCells (l.take i)).length = i * 4 := by rw [entCells_length, List.length_take, Nat.min_eq_left hi]
  have h2 := entCells_split l i
  rw [h2, ← h, List.take_left]
theorem AccAt.alloc {B b : Nat} {l : Value} {d : AccS} {w : World} (h : AccAt B w b l d) (o : Obj) : AccAt B (w.alloc o) b l d :=
  h.upd (L := []) ((Upd.refl _ _).alloc o) (by simp) (by simp)
theorem AccAt.later {B b : Nat} {l : Value} {d : AccS} {w w' : World} (h : AccAt B w b l d) (hu : Upd [] w w') : AccAt B w' b l d :=
  h.upd hu (by simp) (by simp)

theorem fin_upd {k : Nat} {L : List Nat} {w w1 w2 : World} (hu : Upd L w w1) (hk : w.heap.size ≤ k) (hu2 : Upd [k] w1 w2) : Upd L w w2 :=
  hu.trans' hu2 (by intro i hi; simp at hi; subst hi; exact .inr hk)
theorem fin_at {B b k n : Nat} {l : Value} {d : AccS} {w1 w2 : World} (h : AccAt B w1 b l d) (hb : b < k) (hk : ∀ g, l.ownBlock = some g → g < k) (hu2 : Upd [k] w1 w2) : AccAt B w2 b l d :=
  h.upd hu2 (by simp; omega) (fun g hg => by have := hk g hg; simp; omega)
theorem AccAt.ownlt {B b : Nat} {l : Value} {d : AccS} {w : World} (h : AccAt B w b l d) : ∀ g, l.ownBlock = some g → g < w.heap.size := fun g hg => (own_ge h.own g hg).2

theorem own_open2 {w : World} {B T sz : Nat} {v : Value} {n : Nat} {xs : List Value} (h : w.ownsRow B T sz v n xs) :
    ∃ a cap, v = .slice a n cap ∧ n ≤ cap ∧ cap ≤ maxLen ∧ (a = none ∧ cap = 0 ∨ ∃ g, a = some ⟨g, 0, none⟩) := by
  rcases h.2 with ⟨rfl, rfl⟩ | ⟨g, cap, cur, rfl, hb, hg, hnc, hcm, hcs, ht⟩
  · exact ⟨none, 0, rfl, Nat.le_refl _, by unfold maxLen; omega, .inl ⟨rfl, rfl⟩⟩
  · exact ⟨_, cap, rfl, hnc, hcm, .inr ⟨g, rfl⟩⟩
theorem entsAt_drop {w : World} {g n cap i : Nat} {ys : List EntS} (h : EntsAt w (.slice (some ⟨g, 0, none⟩) n cap) ys) (hi : i ≤ ys.length) : EntsAt w (.slice (some ⟨g, i * 4, none⟩) (n - i) (cap - i)) (ys.drop i) := by
  obtain ⟨a, c, e, h1, h2⟩ := h
  cases e
  refine ⟨some ⟨g, i * 4, none⟩, _, by rw [List.length_drop], fun h => (nomatch h), fun b hb j u hj => ?_⟩
  cases hb
  rw [entCells_drop _ _ hi, List.getElem?_drop] at hj
  have := h2 _ rfl _ _ hj
  rw [Addr.add_lit] at this ⊢
  simpa using this
theorem EntsAt.later {w w' : World} {v : Value} {ys : List EntS} (h : EntsAt w v ys) (hu : Upd [] w w') : EntsAt w' v ys := entsAt_upd h hu (by simp)
theorem entsAt_nil (w : World) (a : Option Addr) (c : Nat) : EntsAt w (.slice a 0 c) [] := ⟨a, c, rfl, fun _ => rfl, fun b hb j u hj => by simp [entCells] at hj⟩

set_option maxHeartbeats 2000000 in
theorem prepare_any (B b : Nat) (l : Value) (d : AccS) (m : MsgS) (ma : Option Addr) (mn mc : Nat) (now : Int) (w : World) (h : AccAt B w b l d) (hf : d.fine) (hm : SlotIn m.slot) (hfr : TimeIn m.frm) (hnow : TimeIn now) :
    Calls Try.prog 16 #[.pointer (some ⟨b, 0, none⟩), m.val (.slice ma mn mc), .int .i64 now] w fun e w' =>
      ∃ v', e = .returned (.tuple #[(d.prepare m now).2.1.val v', .bool (d.prepare m now).2.2.2]) ∧ Upd [b] w w' ∧ AccAt B w' b l (d.prepare m now).1 ∧
        w'.ownsRow w.heap.size 85 4 v' (d.prepare m now).2.2.1.length (entCells (d.prepare m now).2.2.1) := by
  have hlt := h.blk.lt
  have hol := hd h.ownlt
  obtain ⟨a, cap, hlv, hnc, hcm, hac⟩ := own_open2 h.own
  have HAC := hd hac
  have HCM := hd hcm
  have HLV := hd hlv
  clear hac hcm hlv
  have HF := hd hf
  have HS := hd hm
  obtain ⟨hm0, hm1⟩ := hm
  obtain ⟨hfr0, hfr1⟩ := hfr
  obtain ⟨hn0, hn1⟩ := hnow
  have ht0 := hf.til0
  have ht1 := hf.til1
  clear hf
  have e2 := two_new w (msgC m (.slice ma mn mc)) (msgC {} (.slice none 0 0)) 41
  have HV := hd (show ∀ x v, MsgS.val x v = .agg (msgC x v) from fun _ _ => rfl)
  have ho1 := others_any B b l d m.frm now
  have hlo := low_any B b l d m.bal
  have hpr := promise_any B b l d m.bal
  have hrf := refuse_any B b l d
  unfold MsgS.val at hrf
  simp only [msgC] at e2 hrf
  rw [show m.val (.slice ma mn mc) = .agg #[.int .i64 m.kind, .int .i64 m.frm, .int .i64 m.to, .int .i64 m.sub, .int .u64 m.bal.c, .int .i64 m.bal.n, .int .i64 m.slot, .int .i64 m.time, .bool m.okb, .string m.text, .slice ma mn mc] from rfl]
  go_enter Try.func16, Try.ntmps16
  go_wp2_with fail
  obtain ⟨W, hW, hu, hA, hR, hsz⟩ := e2
  rw [hW]
  have h1 : AccAt B W b l d := h.later hu
  have HU := hd hu
  clear hW hu h
  have HO := hd ho1
  have HL := hd hlo
  have HPR := hd hpr
  have HRF := hd hrf
  clear ho1 hlo hpr hrf
  refine (HO.out W h1 (by omega) (by omega) (by omega) (by omega) (by omega) (by omega)).mono ?_
  rintro e w' ⟨rfl, rfl⟩
  have H := hd h1
  have HA := hd hA
  have HR := hd hR
  clear hA hR h1
  cases ho : d.others m.frm now
  case true =>
    have HP := hd (show d.prepare m now = (d, { kind := 5, bal := d.bal, time := d.til - now }, [], false) by unfold AccS.prepare; rw [if_pos ho])
    go_wp2_with ((with_reducible refine (HRF.out _ _ H.out).mono ?_); rintro e w' ⟨rfl, hu⟩; have hr := HR.out.upd hu (by simp); have hrc := hr.cell; have hrz := hr.frozen; have HR1 := hd hr; have HU1 := hd hu; clear hu hr)
    refine bodyPost_ret (v := .tuple #[.agg #[.int .i64 5, .int .i64 0, .int .i64 0, .int .i64 0, .int .u64 d.bal.c, .int .i64 d.bal.n, .int .i64 0, .int .i64 (d.til - now), .bool false, .string ⟨#[]⟩, .slice none 0 0], .bool false]) (by simp [results, Try.results16, go_sem, hrc]) rfl ?_
    rw [HP.out]
    have hu1 := HU1.out
    have hx := Upd.refl [w.heap.size + 1] w'
    refine ⟨.slice none 0 0, rfl, ?_, ?_, World.ownsRow_nil _ _ _ _⟩
    · exact fin_upd (k := w.heap.size + 1) ((HU.out.trans hu1).mono (by simp)) (by omega) (by repeat (first | with_reducible exact hx | with_reducible exact Upd.refl _ _ | with_reducible refine Upd.alloc ?_ _ | with_reducible refine Upd.drew ?_ | with_reducible refine Upd.setCell ?_ (by first | (simp; done) | (simp; omega)) _))
    · exact fin_at (k := w.heap.size + 1) (n := 0) (H.out.later hu1) (by omega) (fun g hg => by have := hol.out g hg; omega) (by repeat (first | with_reducible exact hx | with_reducible exact Upd.refl _ _ | with_reducible refine Upd.alloc ?_ _ | with_reducible refine Upd.drew ?_ | with_reducible refine Upd.setCell ?_ (by first | (simp; done) | (simp; omega)) _))
  case false =>
    have hac := HA.out.cell
    have hmb : m.bal.val = .agg #[.int .u64 m.bal.c, .int .i64 m.bal.n] := rfl
    rw [hmb] at HL HPR
    clear hmb
    go_wp2_with fail
    refine (HL.out W H.out).mono ?_
    rintro e W1 ⟨rfl, hu1⟩
    have hr := HR.out.upd hu1 (by simp)
    have ha := HA.out.upd hu1 (by simp)
    have H1 := hd (H.out.later hu1)
    have HU1 := hd (HU.out.trans hu1)
    have hs1 := hu1.size
    clear hac hu1
    cases hl : d.low m.bal
    case true =>
      have HP := hd (show d.prepare m now = (d, { kind := 5, bal := d.bal }, [], false) by unfold AccS.prepare; rw [if_neg (by simp [ho]), if_pos hl])
      have hrc := hr.cell
      have hrz := hr.frozen
      go_wp2_with ((with_reducible refine (HRF.out _ _ H1.out).mono ?_); rintro e w' ⟨rfl, hu⟩; have hr2 := hr.upd hu (by simp); have hrc := hr2.cell; have hrz := hr2.frozen; have HR2 := hd hr2; have HU2 := hd hu; clear hu hr2)
      refine bodyPost_ret (v := .tuple #[.agg #[.int .i64 5, .int .i64 0, .int .i64 0, .int .i64 0, .int .u64 d.bal.c, .int .i64 d.bal.n, .int .i64 0, .int .i64 0, .bool false, .string ⟨#[]⟩, .slice none 0 0], .bool false]) (by simp [results, Try.results16, go_sem, hrc]) rfl ?_
      rw [HP.out]
      have hx := Upd.refl [w.heap.size + 1] w'
      refine ⟨.slice none 0 0, rfl, ?_, ?_, World.ownsRow_nil _ _ _ _⟩
      · exact fin_upd (k := w.heap.size + 1) ((HU1.out.trans HU2.out).mono (by simp)) (by omega) (by repeat (first | with_reducible exact hx | with_reducible exact Upd.refl _ _ | with_reducible refine Upd.alloc ?_ _ | with_reducible refine Upd.drew ?_ | with_reducible refine Upd.setCell ?_ (by first | (simp; done) | (simp; omega)) _))
      · exact fin_at (k := w.heap.size + 1) (n := 0) (H1.out.later HU2.out) (by omega) (fun g hg => by have := hol.out g hg; omega) (by repeat (first | with_reducible exact hx | with_reducible exact Upd.refl _ _ | with_reducible refine Upd.alloc ?_ _ | with_reducible refine Upd.drew ?_ | with_reducible refine Upd.setCell ?_ (by first | (simp; done) | (simp; omega)) _))
    case false =>
      have HP := hd (show d.prepare m now = ({ d with bal := m.bal }, { kind := 2, bal := m.bal, slot := d.base }, d.list.drop (aheadOf d.list m.slot), !(d.bal.c == m.bal.c && d.bal.n == m.bal.n)) by unfold AccS.prepare; rw [if_neg (by simp [ho]), if_neg (by simp [hl])])
      have hac := ha.cell
      go_wp2_with fail
      refine (HPR.out W1 H1.out).mono ?_
      rintro e W2 ⟨rfl, hu2, h2⟩
      have hr2 := hr.upd hu2 (by simp; omega)
      have ha2 := ha.upd hu2 (by simp; omega)
      have HU2 := hd ((HU1.out.mono (by simp) : Upd [b] w W1).trans hu2)
      have hs2 := hu2.size
      clear hac hr ha HPR HL HRF HO
      generalize hch : (!(d.bal.c == m.bal.c && d.bal.n == m.bal.n)) = ch at *
      have hac := ha2.cell
      have hfd := find_any B b l { d with bal := m.bal } m.slot W2 h2 HF.out.sorted HS.out
      have HFD := hd hfd
      clear hfd
      go_wp2_with fail
      refine HFD.out.mono ?_
      rintro e W3 ⟨rfl, hu3⟩
      clear HFD hac
      have hr3 := hd (hr2.upd hu3 (by simp))
      have ha3 := hd (ha2.upd hu3 (by simp))
      have h3 := hd (h2.later hu3)
      have HU3 := hd (HU2.out.trans (hu3.mono (by simp)))
      have hs3 := hu3.size
      clear hu2 hu3 hr2 ha2 h2 HU2 HU1 H1 H HU HA HR
      have hlv := HLV.out
      subst hlv
      have HOL := hol
      clear HLV hol
      have hin := aheadOf_le d.list m.slot
      generalize hi : aheadOf d.list m.slot = i at *
      go_wp2_with fail
      have hc1 := h3.out.blk.cell
      have hc2 := ha3.out.cell
      have hc3 := hr3.out.cell
      have hz3 := hr3.out.frozen
      simp only [AccS.cells] at hc1
      have hen := own_entsAt h3.out.own
      have hb3 : ¬ (b = w.heap.size + 1) := by omega
      have hb4 : ¬ (w.heap.size + 1 = b) := by omega
      have hfin := hd (show ∀ v' w4, Upd [] W3.drew w4 → w4.ownsRow W3.drew.heap.size 85 4 v' (d.list.drop i).length (entCells (d.list.drop i)) → ∀ W2, Upd [w.heap.size + 1] w4 W2 →
          ∃ v'', Ending.returned (.tuple #[.agg (msgC { kind := 2, bal := m.bal, slot := d.base } v'), .bool ch]) = .returned (.tuple #[(d.prepare m now).2.1.val v'', .bool (d.prepare m now).2.2.2]) ∧ Upd [b] w W2 ∧ AccAt B W2 b (.slice a d.list.length cap) (d.prepare m now).1 ∧
            W2.ownsRow w.heap.size 85 4 v'' (d.prepare m now).2.2.1.length (entCells (d.prepare m now).2.2.1) from fun v' w4 hu4 ho4 W2 hu5 => by
        rw [HP.out]
        have hu0 : Upd [] W3 W3.drew := (Upd.refl _ _).drew
        have ho5 := own_mono ho4 (B' := w.heap.size + 2) (by show w.heap.size + 2 ≤ W3.heap.size; omega)
        refine ⟨v', rfl, ?_, ?_, ?_⟩
        · exact fin_upd (k := w.heap.size + 1) (HU3.out.trans ((hu0.trans hu4).mono (by simp))) (by omega) hu5
        · exact fin_at (k := w.heap.size + 1) (n := 0) (h3.out.later (hu0.trans hu4)) (by omega) (fun g hg => by have := HOL.out g hg; omega) hu5
        · exact own_mono (own_upd ho5 hu5 (fun g hg => by have := (own_ge ho5 g hg).1; simp; omega)) (by omega))
      simp only [msgC] at hfin
      by_cases hci : cap = i
      · have hni : d.list.length = i := by omega
        have hdr : d.list.drop i = [] := List.drop_eq_nil_of_le (by omega)
        have HE := hd (fun W (hu : Upd [] W3 W) => eclone_any (.slice a 0 0) [] W (entsAt_nil _ _ _) (by simp))
        rw [hdr] at hfin
        clear hen
        subst hci
        go_region_held3 (fun w' => w'.cell? ⟨w.heap.size, 4, none⟩ = some (.int .u64 m.bal.c) ∧ w'.cell? ⟨w.heap.size, 5, none⟩ = some (.int .i64 m.bal.n) ∧ w'.cell? ⟨b, 3, none⟩ = some (.int .i64 d.base) ∧ w'.cell? ⟨b, 4, none⟩ = some (.slice a d.list.length cap)) (go_keep)
          (first | ((with_reducible refine (HE.out _ ((Upd.refl _ _).drew)).mono ?_); rintro e w4 ⟨v', rfl, hu4, ho4⟩; obtain ⟨xa, xc, rfl, -⟩ := own_open ho4; have k1 := (hr3.out.drew.upd hu4 (by simp)).cell; have k2 := (hr3.out.drew.upd hu4 (by simp)).frozen; have k3 := (ha3.out.drew.upd hu4 (by simp)).cell; have k4 := (h3.out.blk.drew.upd hu4 (by simp)).cell; simp only [AccS.cells] at k4; have HU4 := hd hu4; have HO4 := hd ho4; clear hu4 ho4))
        go_wp2_with fail
        have hx := Upd.refl [w.heap.size + 1] w4
        refine bodyPost_ret (v := .tuple #[.agg #[.int .i64 2, .int .i64 0, .int .i64 0, .int .i64 0, .int .u64 m.bal.c, .int .i64 m.bal.n, .int .i64 d.base, .int .i64 0, .bool false, .string ⟨#[]⟩, .slice xa 0 xc], .bool ch]) (by simp [results, Try.results16, go_sem, k1]) rfl ?_
        exact hfin.out _ w4 HU4.out HO4.out _ (by repeat (first | with_reducible exact hx | with_reducible exact Upd.refl _ _ | with_reducible refine Upd.alloc ?_ _ | with_reducible refine Upd.drew ?_ | with_reducible refine Upd.setCell ?_ (by first | (simp; done) | (simp; omega)) _))
      · rcases HAC.out with ⟨rfl, rfl⟩ | ⟨g, rfl⟩
        · omega
        · have HE := hd (fun W (hu : Upd [] W3 W) => eclone_any _ _ W ((entsAt_drop hen hin).later hu) (by have := HF.out.sorted.len; simp; omega))
          clear hen
          go_region_held3 (fun w' => w'.cell? ⟨w.heap.size, 4, none⟩ = some (.int .u64 m.bal.c) ∧ w'.cell? ⟨w.heap.size, 5, none⟩ = some (.int .i64 m.bal.n) ∧ w'.cell? ⟨b, 3, none⟩ = some (.int .i64 d.base) ∧ w'.cell? ⟨b, 4, none⟩ = some (.slice (some ⟨g, 0, none⟩) d.list.length cap)) (go_keep)
            (first | ((with_reducible refine (HE.out _ ((Upd.refl _ _).drew)).mono ?_); rintro e w4 ⟨v', rfl, hu4, ho4⟩; obtain ⟨xa, xc, rfl, -⟩ := own_open ho4; have k1 := (hr3.out.drew.upd hu4 (by simp)).cell; have k2 := (hr3.out.drew.upd hu4 (by simp)).frozen; have k3 := (ha3.out.drew.upd hu4 (by simp)).cell; have k4 := (h3.out.blk.drew.upd hu4 (by simp)).cell; simp only [AccS.cells] at k4; have HU4 := hd hu4; have HO4 := hd ho4; clear hu4 ho4))
          go_wp2_with fail
          have hx := Upd.refl [w.heap.size + 1] w4
          simp only [List.length_drop] at hfin HO4
          refine bodyPost_ret (v := .tuple #[.agg #[.int .i64 2, .int .i64 0, .int .i64 0, .int .i64 0, .int .u64 m.bal.c, .int .i64 m.bal.n, .int .i64 d.base, .int .i64 0, .bool false, .string ⟨#[]⟩, .slice xa (d.list.length - i) xc], .bool ch]) (by simp [results, Try.results16, go_sem, k1]) rfl ?_
          exact hfin.out _ w4 HU4.out HO4.out _ (by repeat (first | with_reducible exact hx | with_reducible exact Upd.refl _ _ | with_reducible refine Upd.alloc ?_ _ | with_reducible refine Upd.drew ?_ | with_reducible refine Upd.setCell ?_ (by first | (simp; done) | (simp; omega)) _))
end Go.Proofs.Ytfhmdeamhmjddaa

/-
  accept.Acceptor.Accept where the ballot is low; chatelainelaw16.awake, walked. Condition: the ballot is low.
-/
set_option linter.unusedVariables false
set_option linter.unusedSimpArgs false
set_option maxRecDepth 100000
namespace Go.Proofs.Ytfhmdeamhmjddaa
open Go.RowKit

set_option maxHeartbeats 2000000 in
theorem accept_low_any (B b : Nat) (l : Value) (d : AccS) (m : MsgS) (ma : Option Addr) (mn mc : Nat) (w : World) (h : AccAt B w b l d) (hl : d.low m.bal = true) :
    Calls Try.prog 17 #[.pointer (some ⟨b, 0, none⟩), m.val (.slice ma mn mc)] w fun e w' =>
      e = .returned (.tuple #[MsgS.val { kind := 5, bal := d.bal } (.slice none 0 0), .bool false]) ∧ Upd [] w w' := by
  have hlt := h.blk.lt
  have e2 := two_new w (msgC m (.slice ma mn mc)) (msgC {} (.slice none 0 0)) 41
  have hlo := low_any B b l d m.bal
  have hrf := refuse_any B b l d
  unfold MsgS.val at hrf
  simp only [msgC] at e2 hrf
  rw [show m.val (.slice ma mn mc) = .agg #[.int .i64 m.kind, .int .i64 m.frm, .int .i64 m.to, .int .i64 m.sub, .int .u64 m.bal.c, .int .i64 m.bal.n, .int .i64 m.slot, .int .i64 m.time, .bool m.okb, .string m.text, .slice ma mn mc] from rfl]
  go_enter Try.func17, Try.ntmps17
  go_wp2_with fail
  obtain ⟨W, hW, hu, hA, hR, hsz⟩ := e2
  rw [hW]
  have H := hd (h.later hu)
  have HU := hd hu
  have HA := hd hA
  have HR := hd hR
  have HL := hd hlo
  have HRF := hd hrf
  clear hW hu h hA hR hlo hrf
  rw [show m.bal.val = .agg #[.int .u64 m.bal.c, .int .i64 m.bal.n] from rfl] at HL
  refine (HL.out W H.out).mono ?_
  rintro e W1 ⟨rfl, hu1⟩
  rw [hl]
  have hr := HR.out.upd hu1 (by simp)
  have H1 := hd (H.out.later hu1)
  have HU1 := hd (HU.out.trans hu1)
  have hs1 := hu1.size
  clear hu1
  have hrc := hr.cell
  have hrz := hr.frozen
  go_wp2_with ((with_reducible refine (HRF.out _ _ H1.out).mono ?_); rintro e w' ⟨rfl, hu⟩; have hr2 := hr.upd hu (by simp); have hrc := hr2.cell; have hrz := hr2.frozen; have HR2 := hd hr2; have HU2 := hd hu; clear hu hr2)
  refine bodyPost_ret (v := .tuple #[.agg #[.int .i64 5, .int .i64 0, .int .i64 0, .int .i64 0, .int .u64 d.bal.c, .int .i64 d.bal.n, .int .i64 0, .int .i64 0, .bool false, .string ⟨#[]⟩, .slice none 0 0], .bool false]) (by simp [results, Try.results17, go_sem, hrc]) rfl ?_
  have hx := Upd.refl [w.heap.size + 1] w'
  exact ⟨rfl, fin_upd (k := w.heap.size + 1) (HU1.out.trans HU2.out) (by omega) (by repeat (first | with_reducible exact hx | with_reducible exact Upd.refl _ _ | with_reducible refine Upd.alloc ?_ _ | with_reducible refine Upd.drew ?_ | with_reducible refine Upd.setCell ?_ (by first | (simp; done) | (simp; omega)) _))⟩

def aw1 : AccS := ⟨false, ⟨2, 1⟩, 0, [], 0, 0⟩
theorem aw_prep : (acc0 false).prepare { frm := 1, bal := ⟨2, 1⟩ } 0 = (aw1, { kind := 2, bal := ⟨2, 1⟩, slot := 0 }, [], true) := by kernel_rfl
theorem aw_low : aw1.low ⟨1, 0⟩ = true := by kernel_rfl
theorem acc0_fine (wit : Bool) : (acc0 wit).fine := ⟨⟨by simp [acc0], fun e he => by simp [acc0] at he, by simp [acc0]⟩, by simp [acc0], by simp [acc0], by simp [acc0], by simp [acc0], by simp [acc0], by simp [acc0]⟩

set_option maxHeartbeats 2000000 in
theorem awake_any (w : World) : Calls Try.prog 8 #[] w fun e w' => e = .returned (.bool true) ∧ Upd [] w w' := by
  go_enter Try.func8, Try.ntmps8
  go_wp2_with fail
  refine (anew_any false w).mono ?_
  rintro e w1 ⟨rfl, hu1, h1, hlt⟩
  have HU1 := hd hu1
  have H1 := hd h1
  clear hu1 h1
  go_wp2_with fail
  refine (prepare_any w.heap.size w.heap.size _ (acc0 false) { frm := 1, bal := ⟨2, 1⟩ } none 0 0 0 w1 H1.out (acc0_fine false) (by unfold SlotIn; simp) (by unfold TimeIn; simp) (by unfold TimeIn; simp)).mono ?_
  rintro e w2 ⟨v', rfl, hu2, h2, ho2⟩
  rw [aw_prep] at h2 ho2 ⊢
  obtain ⟨xa, xc, rfl, -⟩ := own_open ho2
  unfold MsgS.val msgC
  have HU2 := hd hu2
  have H2 := hd h2
  have hs2 := hu2.size
  clear hu2 h2 ho2
  go_wp2_with fail
  have hw2 := hd (Blk.new w2 #[.int .i64 2, .int .i64 0, .int .i64 0, .int .i64 0, .int .u64 2, .int .i64 1, .int .i64 0, .int .i64 0, .bool false, .string ⟨#[]⟩, .slice xa 0 xc] 41)
  refine (accept_low_any w.heap.size w.heap.size _ aw1 { bal := ⟨1, 0⟩, slot := 1 } none 0 0 _ (H2.out.alloc _) aw_low).mono ?_
  rintro e w3 ⟨rfl, hu3⟩
  have hw3 := hw2.out.upd hu3 (by simp)
  have hc3 := hw3.cell
  have hl3 := hw3.lt
  have HU3 := hd hu3
  clear hu3 hw3 hw2
  unfold MsgS.val msgC
  simp only [aw1]
  go_wp2_with fail
  go_ret
  refine ⟨rfl, ?_⟩
  have hu2 : Upd [w.heap.size] w w2 := (HU1.out.mono (by simp)).trans HU2.out
  have hu3 : Upd [w.heap.size] w w3 := hu2.trans (((Upd.refl [] _).alloc _).trans HU3.out |>.mono (by simp))
  exact (hu3.alloc _).mono (by simp)
end Go.Proofs.Ytfhmdeamhmjddaa

/-
  Laws of rows whose elements take four cells: copy, cells set one by one, what a row then is. No condition beyond those that each theorem states.
-/
set_option linter.unusedVariables false
set_option linter.unusedSimpArgs false
set_option maxRecDepth 100000
namespace Go.Proofs.Ytfhmdeamhmjddaa
open Go.RowKit

theorem run_copy_many {P : Program} (w : World) (dT sT ty elem : TypeId) (sz b o dLen dCap : Nat) (a : Addr) (sLen sCap : Nat) (cs : List Value)
    (hu : P.underlying dT = some (.slice elem)) (hs : (P.info? elem).map (·.size) = some sz) (hn : cs.length = Nat.min sLen dLen * sz)
    (hsrc : ∀ j v, cs[j]? = some v → w.cell? (a.add j) = some v) (hc : ∀ j, j < cs.length → (w.cell? ⟨b, o + j, none⟩).isSome = true) (hf : ∀ j, j < cs.length → w.frozen? ⟨b, o + j, none⟩ = false) (h1 : ∀ v ∈ cs, v.oneCell' = true) :
    (Builtin.copy_ #[dT, sT] ty #[.slice (some ⟨b, o, none⟩) dLen dCap, .slice (some a) sLen sCap]).run P w = .ok (goInt (Nat.min sLen dLen)) (w.setCells b o cs) := by
  have hl := run_loadCells_list (P := P) w a cs hsrc
  have hst := run_storeCells_cells (P := P) b o cs 0 w (by simpa using hc) (by simpa using hf) h1
  cases hq : P.info? elem with
  | none => simp [hq] at hs
  | some i =>
    have hi : i.size = sz := by simpa [hq] using hs
    simp [Builtin.copy_, run_underlying hu, Builtin.lenOf, Builtin.firstCells, sizeOf, typeInfo, hq, hi, ← hn, hl, hst]

/-- THE OPERATION 'copy(d, s)' FOR THE WALK, where its run is known by an equation (turned from the kit's law for the library's Insert). -/
theorem wpList_copy_run {P : Program} (w : World) {ops : Array Oper} {rest : List Oper} {o : Oper} {a : Act} {Q : Exit → Act → World → Prop} (hgd : o.guard = none) (d s : Operand) (t t' : TypeId)
    (ho : o.op = .call { callee := .builtin .copy, args := #[d, s], argTypes := #[t, t'] }) (v u : Value) (hd : a.eval d = v) (hs : a.eval s = u) {v' : Value} {w' : World}
    (hr : (Builtin.copy_ #[t, t'] o.type #[v, u]).run P w = .ok v' w') (h : wpList P ops Q rest (a.put o.dst v') w') : wpList P ops Q (o :: rest) a w :=
  wpList_plain hgd fun K hK => by
    unfold Oper.wp execOp
    simp only [ho, resolve, invoke, builtin, Sem.run_bind, Sem.run_pure, Result.andThen_ok, List.map_toArray, List.map_cons, List.map_nil, hd, hs, hr]
    exact hK _ _ h

theorem step_copy_run {P : Program} {ops : Array Oper} {o : Oper} {a : Act} {w : World} {K : Act → World → Prop} {Q : Exit → Act → World → Prop} {E : Prop}
    (hg : o.guard = none) (d x : Operand) (dT sT : TypeId) (hop : o.op = Op.call { callee := Callee.builtin Builtin.copy, args := #[d, x], argTypes := #[dT, sT] })
    (v u : Value) (hd : a.eval d = v) (hx : a.eval x = u) {v' : Value} {w' : World} (hr : (Builtin.copy_ #[dT, sT] o.type #[v, u]).run P w = .ok v' w') (hK : K (a.put o.dst v') w') :
    if Region.wanted o (yielded ops a.tmps) = true then Oper.wp P o a w K Q else E := by
  have hw : Region.wanted o (yielded ops a.tmps) = true := by simp [Region.wanted, hg]
  rw [if_pos hw]
  unfold Oper.wp
  simp [execOp, hop, resolve, invoke, builtin, hd, hx, hr, Result.andThen]
  exact hK

theorem setCells_blk {T b : Nat} : ∀ (vs : List Value) (o : Nat) (w : World) (c : Array Value), Blk w b c T → ∃ c', Blk (w.setCells b o vs) b c' T ∧ c'.size = c.size
  | [], _, w, c, h => ⟨c, h, rfl⟩
  | v :: r, o, w, c, h => by
    obtain ⟨c', h1, h2⟩ := setCells_blk r (o + 1) (w.setCell ⟨b, o, none⟩ v) _ (h.set o v)
    exact ⟨c', h1, by simpa using h2⟩
theorem setCells_upd {b : Nat} : ∀ (vs : List Value) (o : Nat) (w : World), Upd [b] w (w.setCells b o vs)
  | [], _, w => Upd.refl _ _
  | v :: r, o, w => ((Upd.refl _ _).setCell (p := ⟨b, o, none⟩) (by simp) v).trans (setCells_upd r (o + 1) _)
theorem setCells_drew (b : Nat) : ∀ (vs : List Value) (o : Nat) (w : World), (w.setCells b o vs).drew = w.drew.setCells b o vs
  | [], _, _ => rfl
  | v :: r, o, w => by rw [World.setCells, World.setCells, setCells_drew b r]; rfl
theorem isSome_setCells' (b : Nat) (vs : List Value) (o : Nat) (w : World) (h : ∀ j, j < vs.length → (w.cell? ⟨b, o + j, none⟩).isSome = true) (k : Nat) (hk : (w.cell? ⟨b, k, none⟩).isSome = true) : ((w.setCells b o vs).cell? ⟨b, k, none⟩).isSome = true := by
  by_cases hin : o ≤ k ∧ k < o + vs.length
  · have := World.cell?_setCells_in b vs o w h (k - o) (by omega)
    rw [show o + (k - o) = k by omega] at this
    rw [this]; rfl
  · rw [World.cell?_setCells_out b vs o w ⟨b, k, none⟩ (fun _ _ => by show k < o ∨ o + vs.length ≤ k; omega)]
    exact hk

/-- A row by its cells. -/
theorem own_of_cells {w : World} {B T sz g n cap : Nat} {c : Array Value} {xs : List Value} (hb : Blk w g c T) (hB : B ≤ g) (hnc : n ≤ cap) (hcm : cap ≤ maxLen) (hcs : c.size = cap * sz) (hl : xs.length = n * sz)
    (hx : ∀ j, j < n * sz → w.cell? ⟨g, j, none⟩ = xs[j]?) : w.ownsRow B T sz (.slice (some ⟨g, 0, none⟩) n cap) n xs := by
  refine ⟨hl, .inr ⟨g, cap, c, rfl, hB, hb, hnc, hcm, hcs, ?_⟩⟩
  apply List.ext_getElem?
  intro j
  by_cases hj : j < n * sz
  · rw [List.getElem?_take, if_pos hj, ← hx j hj, Blk.cell hb j]
    simp
  · rw [List.getElem?_eq_none (by simp; omega), List.getElem?_eq_none (by omega)]

/-- An entry put in at its place: the cells. -/
theorem entCells_ins (l : List EntS) (x : EntS) (i : Nat) (hi : i ≤ l.length) : entCells (l.take i ++ x :: l.drop i) = (entCells l).take (i * 4) ++ (x.cells ++ (entCells l).drop (i * 4)) := by
  have e : entCells (l.take i ++ x :: l.drop i) = entCells (l.take i) ++ (x.cells ++ entCells (l.drop i)) := by
    simp [entCells, List.flatMap_append, List.flatMap_cons]
  have h : (entCells (l.take i)).length = i * 4 := by rw [entCells_length, List.length_take, Nat.min_eq_left hi]
  have h2 : entCells l = entCells (l.take i) ++ entCells (l.drop i) := by
    have : entCells (l.take i ++ l.drop i) = entCells (l.take i) ++ entCells (l.drop i) := List.flatMap_append
    rw [← this, List.take_append_drop]
  rw [e, h2, ← h, List.take_left, List.drop_left]
end Go.Proofs.Ytfhmdeamhmjddaa
