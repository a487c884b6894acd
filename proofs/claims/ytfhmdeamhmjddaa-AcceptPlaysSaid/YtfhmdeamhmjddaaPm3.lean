/-
  Package accept: find (by slices.BinarySearchFunc), walked. Conditions: the entries stand in order of their slots.
-/
import Derived.Test.YtfhmdeamhmjddaaPm2
set_option linter.unusedVariables false
set_option linter.unusedSimpArgs false
set_option maxRecDepth 100000
namespace Go.Proofs.Ytfhmdeamhmjddaa
open Go.RowKit

/-- A slot that there may be. -/
def SlotIn (z : Int) : Prop := -1099511627776 ≤ z ∧ z ≤ 1099511627776
/-- In order of their slots, and not too many. -/
structure SortedE (l : List EntS) : Prop where
  len : l.length ≤ 1024
  slots : ∀ e ∈ l, SlotIn e.slot
  order : l.Pairwise fun a b => a.slot < b.slot
/-- So many entries ahead of a slot. -/
def aheadOf (l : List EntS) (n : Int) : Nat := (l.takeWhile fun e => decide (e.slot < n)).length
/-- Has the slot its entry? -/
def hasSlot (l : List EntS) (n : Int) : Bool := l.any fun e => e.slot == n

theorem entCells_length (l : List EntS) : (entCells l).length = l.length * 4 := by
  induction l with
  | nil => rfl
  | cons a t ih => simp only [entCells, List.flatMap_cons, List.length_append, EntS.cells, List.length_cons, List.length_nil] at *; omega
theorem entCells_get (l : List EntS) (i : Nat) (hi : i < l.length) (j : Nat) (hj : j < 4) : (entCells l)[i * 4 + j]? = (l[i]).cells[j]? := by
  induction l generalizing i with
  | nil => simp at hi
  | cons a t ih =>
    have e : entCells (a :: t) = a.cells ++ entCells t := rfl
    rw [e]
    cases i with
    | zero =>
      rw [List.getElem?_append_left (by simp [EntS.cells]; omega)]
      simp
    | succ i =>
      rw [List.getElem?_append_right (by simp [EntS.cells]; omega)]
      have := ih i (by simpa using hi)
      rw [show (i + 1) * 4 + j - a.cells.length = i * 4 + j by simp [EntS.cells]; omega]
      rw [this]
      simp

theorem own_open {w : World} {B T sz : Nat} {v : Value} {n : Nat} {xs : List Value} (h : w.ownsRow B T sz v n xs) :
    ∃ a cap, v = .slice a n cap ∧ n ≤ cap ∧ cap ≤ maxLen ∧ (0 < n → ∃ g, a = some ⟨g, 0, none⟩ ∧ B ≤ g ∧ g < w.heap.size ∧ (∀ j, j < n * sz → w.cell? ⟨g, j, none⟩ = xs[j]?) ∧ (∀ j, w.frozen? ⟨g, j, none⟩ = false)) := by
  have hh := h
  obtain ⟨hl, h⟩ := h
  rcases h with ⟨rfl, rfl⟩ | ⟨g, cap, cur, rfl, hb, hg, hnc, hcm, hcs, ht⟩
  · exact ⟨none, 0, rfl, Nat.le_refl _, by unfold maxLen; omega, by omega⟩
  · refine ⟨_, cap, rfl, hnc, hcm, fun hn => ?_⟩
    obtain ⟨g', cap', e, h1, h2, h3, h4, h5⟩ := own_cases hh hn
    simp only [Value.slice.injEq, Option.some.injEq, Addr.mk.injEq, and_true, true_and] at e
    obtain ⟨rfl, rfl⟩ := e
    exact ⟨g, rfl, h1, h2, h4, h5⟩

theorem aheadOf_eq (l : List EntS) (n : Int) (k : Nat) (hk : k ≤ l.length) (h1 : ∀ t (ht : t < l.length), t < k → l[t].slot < n) (h2 : ∀ t (ht : t < l.length), k ≤ t → n ≤ l[t].slot) : aheadOf l n = k := by
  unfold aheadOf
  induction l generalizing k with
  | nil => simp at hk; subst hk; rfl
  | cons a t ih =>
    cases k with
    | zero =>
      have := h2 0 (by simp) (by omega)
      simp at this
      rw [List.takeWhile_cons_of_neg (by simpa using this)]
      rfl
    | succ k =>
      have := h1 0 (by simp) (by omega)
      simp at this
      rw [List.takeWhile_cons_of_pos (by simpa using this)]
      simp only [List.length_cons]
      rw [ih k (by simpa using hk) (fun t ht hk => by have := h1 (t + 1) (by simpa using ht) (by omega); rwa [List.getElem_cons_succ] at this) (fun t ht hk => by have := h2 (t + 1) (by simpa using ht) (by omega); rwa [List.getElem_cons_succ] at this)]
theorem hasSlot_eq (l : List EntS) (n : Int) (k : Nat) (hs : SortedE l) (h1 : ∀ t (ht : t < l.length), t < k → l[t].slot < n) (h2 : ∀ t (ht : t < l.length), k ≤ t → n ≤ l[t].slot) (b : Bool)
    (hb : b = true ↔ ∃ h : k < l.length, l[k].slot = n) : hasSlot l n = b := by
  rw [Bool.eq_iff_iff, hb]
  simp only [hasSlot, List.any_eq_true, beq_iff_eq]
  constructor
  · rintro ⟨e, he, rfl⟩
    obtain ⟨t, ht, rfl⟩ := List.getElem_of_mem he
    have ht1 : ¬ t < k := fun h => by have := h1 t ht h; omega
    have hkl : k < l.length := by omega
    refine ⟨hkl, ?_⟩
    rcases Nat.lt_or_ge k t with h | h
    · have h3 := List.pairwise_iff_getElem.1 hs.order k t hkl ht h
      have := h2 k hkl (Nat.le_refl _)
      omega
    · obtain rfl : t = k := by omega
      rfl
  · rintro ⟨h, e⟩
    exact ⟨_, List.getElem_mem h, e⟩

theorem find1_any (s c k n : Int) (t : ByteArray) (w : World) (he : SlotIn s) (hn : SlotIn n) :
    Calls Try.prog 67 #[.agg #[.int .i64 s, .int .u64 c, .int .i64 k, .string t], .int .i64 n] w fun r w' => r = .returned (.int .i64 (s - n)) ∧ Upd [] w w' := by
  obtain ⟨he0, he1⟩ := he
  obtain ⟨hn0, hn1⟩ := hn
  go_enter Try.func67, Try.ntmps67
  go_wp2
  go_ret
  exact ⟨rfl, (Upd.refl _ _).alloc _⟩

set_option maxHeartbeats 1000000 in
theorem search_any (B : Nat) (v : Value) (l : List EntS) (n : Int) (w : World) (h : w.ownsRow B 85 4 v l.length (entCells l)) (hs : SortedE l) (hn : SlotIn n) :
    Calls Try.prog 66 #[v, .int .i64 n, .func (.func 67) #[] #[]] w fun r w' =>
      r = .returned (.tuple #[.int .i64 (aheadOf l n : Int), .bool (hasSlot l n)]) ∧ Upd [] w w' := by
  obtain ⟨a, cap, rfl, hcap, hcm, hrow⟩ := own_open h
  have hcell : ∀ wr, Upd [] w wr → ∀ t (ht : t < l.length), ∃ g, a = some ⟨g, 0, none⟩ ∧ wr.cell? ⟨g, t * 4, none⟩ = some (.int .i64 l[t].slot) ∧ wr.cell? ⟨g, t * 4 + 1, none⟩ = some (.int .u64 l[t].bal.c) ∧
      wr.cell? ⟨g, t * 4 + 2, none⟩ = some (.int .i64 l[t].bal.n) ∧ wr.cell? ⟨g, t * 4 + 3, none⟩ = some (.string l[t].text) := by
    intro wr hu t ht
    obtain ⟨g, rfl, hg, hgl, hc, hf⟩ := hrow (by omega)
    have hc' : ∀ j, j < l.length * 4 → wr.cell? ⟨g, j, none⟩ = (entCells l)[j]? := fun j hj => by rw [← hc j hj]; exact World.cell?_of_block (hu.block g hgl (by simp))
    refine ⟨g, rfl, ?_, ?_, ?_, ?_⟩
    · rw [hc' _ (by omega)]; exact entCells_get l t ht 0 (by omega)
    · rw [hc' _ (by omega)]; exact entCells_get l t ht 1 (by omega)
    · rw [hc' _ (by omega)]; exact entCells_get l t ht 2 (by omega)
    · rw [hc' _ (by omega)]; exact entCells_get l t ht 3 (by omega)
  have HC := hd hcell
  have HS := hd hs
  have HN := hd hn
  have hl := hs.len
  clear hcell hrow h hs hn hcm
  go_enter Try.func66, Try.ntmps66
  go_wp2_with fail
  go_loopw [9, 10] (fun s9 s10 wr => ∃ lo hi : Nat, s9 = .int .i64 lo ∧ s10 = .int .i64 hi ∧ lo ≤ hi ∧ hi ≤ l.length ∧ Upd [] w wr ∧ Hd ((∀ t (ht : t < l.length), t < lo → l[t].slot < n) ∧ (∀ t (ht : t < l.length), hi ≤ t → n ≤ l[t].slot))) (fun s9 s10 _ => (intOf s10 - intOf s9).toNat)
  case atStart => exact ⟨0, l.length, rfl, rfl, Nat.zero_le _, Nat.le_refl _, Upd.refl _ _, hd ⟨fun t ht h => by omega, fun t ht h => by omega⟩⟩
  case round =>
    obtain ⟨lo, hi, rfl, rfl, hlh, hin, hu, hI⟩ := hrel
    have HU := hd hu
    by_cases hlt : lo < hi
    · obtain ⟨m, hml, hmh, hmi⟩ : ∃ m : Nat, lo ≤ m ∧ m < hi ∧ ((lo : Int) + (hi : Int)) / 2 = (m : Int) := ⟨(lo + hi) / 2, by omega, by omega, by omega⟩
      have hmb : m < l.length := by omega
      obtain ⟨g, rfl, c0, c1, c2, c3⟩ := HC.out wr hu m (by omega)
      have hm0 := hd (HS.out.slots _ (List.getElem_mem (show m < l.length by omega)))
      clear hu
      have hmid := hd (show ∀ t (ht : t < l.length), (t < m → l[t].slot < (l[m]'(by omega)).slot) ∧ (m < t → (l[m]'(by omega)).slot < l[t].slot) from fun t ht =>
        ⟨fun h => List.pairwise_iff_getElem.1 HS.out.order t _ ht _ h, fun h => List.pairwise_iff_getElem.1 HS.out.order _ t _ ht h⟩)
      generalize hel : l[m]'_ = e at *
      have HEL := hd hel
      clear hel
      obtain ⟨s, ⟨c, k⟩, tx⟩ := e
      simp only at c0 c1 c2 c3 hm0 hmid
      by_cases hsn : s < n
      · have hsn' : s - n < 0 := by omega
        go_wp2_with ((with_reducible refine (find1_any _ _ _ _ _ _ hm0.out HN.out).mono ?_); rintro e w' ⟨rfl, hu⟩; have HU1 := hd hu; clear hu)
        go_roundw
        case rel => exact ⟨m + 1, hi, by go_num, rfl, by omega, hin, HU.out.trans HU1.out, hd ⟨fun t ht h => by
          rcases Nat.lt_or_ge t m with h1 | h1
          · have := (hmid.out t ht).1 h1; omega
          · obtain rfl : t = m := by omega
            rw [HEL.out]; exact hsn, hI.out.2⟩⟩
        case measure => simp [intOf]; omega
      · have hsn' : ¬ s - n < 0 := by omega
        go_wp2_with ((with_reducible refine (find1_any _ _ _ _ _ _ hm0.out HN.out).mono ?_); rintro e w' ⟨rfl, hu⟩; have HU1 := hd hu; clear hu)
        go_roundw
        case rel => exact ⟨lo, m, rfl, rfl, hml, by omega, HU.out.trans HU1.out, hd ⟨hI.out.1, fun t ht h => by
          rcases Nat.lt_or_ge m t with h1 | h1
          · have := (hmid.out t ht).2 h1; omega
          · obtain rfl : t = m := by omega
            rw [HEL.out]; show n ≤ s; omega⟩⟩
        case measure => simp [intOf]; omega
    · obtain rfl : hi = lo := by omega
      have HA := hd (aheadOf_eq l n hi hin hI.out.1 hI.out.2)
      have HB := hd (hasSlot_eq l n hi HS.out hI.out.1 hI.out.2)
      by_cases hhl : hi < l.length
      · obtain ⟨g, rfl, c0, c1, c2, c3⟩ := HC.out wr hu hi hhl
        have hm0 := hd (HS.out.slots _ (List.getElem_mem hhl))
        have HB' := hd (show ∀ b : Bool, (b = true ↔ l[hi].slot = n) → hasSlot l n = b from fun b hb => HB.out b (hb.trans ⟨fun h => ⟨hhl, h⟩, fun ⟨_, h⟩ => h⟩))
        clear hu HB
        generalize l[hi]'_ = e at *
        obtain ⟨s, ⟨c, k⟩, tx⟩ := e
        simp only at c0 c1 c2 c3 hm0 HB'
        have hhl' : (hi : Int) < (l.length : Int) := by omega
        go_wp2_with ((with_reducible refine (find1_any _ _ _ _ _ _ hm0.out HN.out).mono ?_); rintro e w' ⟨rfl, hu⟩; have HU1 := hd hu; clear hu)
        go_ret2
        rw [HA.out, HB'.out (s - n == 0) (by simp; omega)]
        exact ⟨rfl, HU.out.trans HU1.out⟩
      · have hhl' : ¬ (hi : Int) < (l.length : Int) := by omega
        clear hu
        go_wp2_with fail
        go_ret2
        rw [HA.out, HB.out false (by simp; omega)]
        exact ⟨rfl, HU.out⟩

theorem find_any (B b : Nat) (l : Value) (d : AccS) (n : Int) (w : World) (h : AccAt B w b l d) (hs : SortedE d.list) (hn : SlotIn n) :
    Calls Try.prog 40 #[.pointer (some ⟨b, 0, none⟩), .int .i64 n] w fun r w' =>
      r = .returned (.tuple #[.int .i64 (aheadOf d.list n : Int), .bool (hasSlot d.list n)]) ∧ Upd [] w w' := by
  have hc := h.blk.cell
  have hlt := h.blk.lt
  have H := hd h
  simp only [AccS.cells] at hc
  clear h
  go_enter Try.func40, Try.ntmps40
  go_wp2_with ((with_reducible refine (search_any B l d.list n _ H.out.own hs hn).mono ?_); rintro e w' ⟨rfl, hu⟩; have HU := hd hu; clear hu)
  go_ret2
  exact ⟨rfl, HU.out⟩
end Go.Proofs.Ytfhmdeamhmjddaa

/-
  Package accept: Clone of entries, List, Clone, Prepare, walked. Conditions: those that each theorem states.
-/
set_option linter.unusedVariables false
set_option linter.unusedSimpArgs false
set_option maxRecDepth 100000
namespace Go.Proofs.Ytfhmdeamhmjddaa
open Go.RowKit

/-- A slice of entries, wherever its cells lie. -/
def EntsAt (w : World) (v : Value) (ys : List EntS) : Prop :=
  ∃ a cap, v = .slice a ys.length cap ∧ (a = none → ys = []) ∧ (∀ b, a = some b → ∀ j u, (entCells ys)[j]? = some u → w.cell? (b.add j) = some u)

theorem own_entsAt {w : World} {B T : Nat} {v : Value} {ys : List EntS} (h : w.ownsRow B T 4 v ys.length (entCells ys)) : EntsAt w v ys := by
  obtain ⟨hl, h⟩ := h
  rcases h with ⟨rfl, hn⟩ | ⟨g, cap, cur, rfl, hb, hg, hnc, hcm, hcs, ht⟩
  · obtain rfl : ys = [] := List.eq_nil_of_length_eq_zero hn
    exact ⟨none, 0, rfl, fun _ => rfl, fun b hb => (nomatch hb)⟩
  · refine ⟨_, cap, rfl, fun h => (nomatch h), fun b hb j u hj => ?_⟩
    cases hb
    have hjl : j < (entCells ys).length := (List.getElem?_eq_some_iff.1 hj).1
    rw [Addr.add_lit, Nat.zero_add, Blk.cell hg j, ← hj, ← ht, List.getElem?_take, if_pos (by rw [entCells_length] at hjl; exact hjl)]
    simp
theorem entsAt_upd {L : List Nat} {w w' : World} {v : Value} {ys : List EntS} (h : EntsAt w v ys) (hu : Upd L w w') (hL : ∀ g, v.ownBlock = some g → g ∉ L) : EntsAt w' v ys := by
  obtain ⟨a, cap, rfl, h1, h2⟩ := h
  refine ⟨a, cap, rfl, h1, fun b hb j u hj => ?_⟩
  subst hb
  have hc := h2 b rfl j u hj
  have hbl : (b.add j).block < w.heap.size := World.block_lt_of_cell? w _ hc
  rw [← hc]
  refine World.cell?_of_block (hu.block _ hbl ?_)
  have : (b.add j).block = b.block := by unfold Addr.add; split <;> rfl
  rw [this]
  exact hL _ rfl

theorem one_cells (l : List EntS) : ∀ u ∈ entCells l, u.oneCell' = true := by
  intro u hu
  simp only [entCells, List.mem_flatMap, EntS.cells] at hu
  obtain ⟨e, _, hu⟩ := hu
  simp at hu
  rcases hu with rfl | rfl | rfl | rfl <;> rfl

theorem Try.infoEnt : (Try.prog.info? 85).map (fun i => (i.zero, i.size, i.bytes)) = some (some (.agg #[.int .i64 0, .int .u64 0, .int .i64 0, .string ⟨#[]⟩]), 4, 40) := by kernel_rfl

set_option maxHeartbeats 1000000 in
theorem eclone_any (v : Value) (ys : List EntS) (w : World) (h : EntsAt w v ys) (hl : ys.length ≤ 1024) :
    Calls Try.prog 41 #[v] w fun r w' =>
      ∃ v', r = .returned v' ∧ Upd [] w w' ∧ w'.ownsRow w.heap.size 85 4 v' ys.length (entCells ys) := by
  obtain ⟨i0, hinf, hz0, hz1, hz2⟩ := info_parts Try.infoEnt
  obtain ⟨a, cap, rfl, hn, hb⟩ := h
  cases a with
  | none =>
    obtain rfl := hn rfl
    clear hb
    go_enter Try.func41, Try.ntmps41
    have hel := fun W => Lib.run_eql_slice_nil (P := Try.prog) W 39 85 none 0 cap 0 0 Try.underlying39
    go_wp2_with fail
    go_ret
    exact ⟨_, rfl, Upd.refl _ _, World.ownsRow_nil _ _ _ _⟩
  | some b =>
    have HB := hd (hb b rfl)
    clear hb hn
    have hlen := entCells_length ys
    have h1 := hd (one_cells ys)
    generalize entCells ys = cs at *
    have HL := hd hlen
    clear hlen
    have hel := fun W => Lib.run_eql_slice_nil (P := Try.prog) W 39 85 (some b) ys.length cap 0 0 Try.underlying39
    go_enter Try.func41, Try.ntmps41
    go_wp2_with (at_builtin; refine wpList_append_own_at _ rfl (.tmp 5) (.tmp 6) 39 rfl w.heap.size 85 i0 _ 4 40 Try.underlying39 hinf hz0 hz1 hz2 rfl (by decide) _ 0 [] rfl ?c1 b ys.length cap cs rfl HL.out ?c2 h1.out ?c4 ?c5 ?c6 ?_)
    case c1 => exact ⟨rfl, .inr ⟨w.heap.size, 0, #[], rfl, by omega, Blk.new _ _ _, by omega, by unfold maxLen; omega, rfl, rfl⟩⟩
    case c2 => exact fun j u hj => Lib.cell?_alloc_some _ (HB.out j u hj)
    case c4 => unfold maxLen; omega
    case c5 => omega
    case c6 => simp
    intro v' w' hown hgr _ hblk
    have hu := Upd.of_grown hgr
    have HU := hd (show Upd [] w w' from ((Upd.refl [] w).alloc _).trans' hu (by simp [Value.ownBlock]))
    have HO := hd hown
    clear hown hgr hblk hu
    go_wp2_with fail
    go_ret
    exact ⟨v', rfl, HU.out, by simpa using HO.out⟩

theorem list_any (B b : Nat) (l : Value) (d : AccS) (w : World) (h : AccAt B w b l d) (hl : d.list.length ≤ 1024) :
    Calls Try.prog 20 #[.pointer (some ⟨b, 0, none⟩)] w fun r w' =>
      ∃ v', r = .returned v' ∧ Upd [] w w' ∧ w'.ownsRow w.heap.size 85 4 v' d.list.length (entCells d.list) := by
  have hc := h.blk.cell
  have hlt := h.blk.lt
  have H := hd h
  simp only [AccS.cells] at hc
  clear h
  go_enter Try.func20, Try.ntmps20
  go_wp2_with ((with_reducible refine (eclone_any l d.list _ (own_entsAt H.out.own) hl).mono ?_); rintro e w' ⟨v', rfl, hu, ho⟩; have HU := hd hu; have HO := hd ho; clear hu ho)
  go_ret
  exact ⟨v', rfl, HU.out, HO.out⟩

theorem own_one {w : World} {B T sz : Nat} {v : Value} {n : Nat} {xs : List Value} (h : w.ownsRow B T sz v n xs) : v.oneCell' = true := by
  obtain ⟨a, cap, rfl, _⟩ := own_open h
  rfl

theorem own_ge {w : World} {B T sz : Nat} {v : Value} {n : Nat} {xs : List Value} (h : w.ownsRow B T sz v n xs) : ∀ g, v.ownBlock = some g → B ≤ g ∧ g < w.heap.size := by
  intro g hg
  rcases h.2 with he | ⟨g', cap, cur, he, hb, hg', _⟩
  · rw [he.1] at hg; cases hg
  · rw [he] at hg
    simp only [Value.ownBlock, Option.some.injEq] at hg
    subst hg
    exact ⟨hb, Blk.lt hg'⟩

theorem aclone_any (B b : Nat) (l : Value) (d : AccS) (w : World) (h : AccAt B w b l d) (hl : d.list.length ≤ 1024) :
    Calls Try.prog 23 #[.pointer (some ⟨b, 0, none⟩)] w fun r w' =>
      ∃ b' l', r = .returned (.pointer (some ⟨b', 0, none⟩)) ∧ w.heap.size ≤ b' ∧ Upd [] w w' ∧ AccAt w.heap.size w' b' l' d := by
  obtain ⟨a, cap, rfl, -⟩ := own_open h.own
  have hc := h.blk.cell
  have hlt := h.blk.lt
  have H := hd h
  simp only [AccS.cells] at hc
  clear h
  go_enter Try.func23, Try.ntmps23
  go_wp2_with ((with_reducible refine (eclone_any _ d.list _ (own_entsAt (own_upd (L := []) H.out.own ((Upd.refl _ _).alloc _) (by simp))) hl).mono ?_); rintro e w' ⟨v', rfl, hu, ho⟩; obtain ⟨a', cap', rfl, -⟩ := own_open ho; have hbn := Blk.upd (Blk.new _ _ _) hu (by simp); have hcn := hbn.cell; have hzn := hbn.frozen; have HBN := hd hbn; have HU := hd hu; have HO := hd ho; clear hu ho hbn)
  go_ret
  refine ⟨_, _, rfl, Nat.le_refl _, ?_, ⟨HBN.out.set 4 _, ?_⟩⟩
  · exact (((Upd.refl [] w).alloc _).trans HU.out).setCell (.inr (Nat.le_refl _)) _
  · have ho := own_mono HO.out (B' := w.heap.size) (by simp)
    exact own_upd (L := [w.heap.size]) ho ((Upd.refl _ _).setCell (by simp) _) (fun g hg => by
      have := (own_ge HO.out g hg).1
      simp at this ⊢
      omega)

end Go.Proofs.Ytfhmdeamhmjddaa
