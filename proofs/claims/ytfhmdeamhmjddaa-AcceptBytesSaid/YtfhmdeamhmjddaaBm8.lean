/-
  AcceptFull of layer 16, the plain law: what an acceptor holds that accepted sixty-four entries of every second slot. No condition beyond those that each theorem states.
-/
import Derived.Test.YtfhmdeamhmjddaaBm7
import Derived.Test.YtfhmdeamhmjddaaBm3
import Derived.Test.YtfhmdeamhmjddaaBm6
import Derived.Deep.Cut
import Derived.Deep.CutRange
set_option linter.unusedVariables false
set_option linter.unusedSimpArgs false
set_option maxRecDepth 100000
namespace Go.Proofs.Ytfhmdeamhmjddaa

/-- The entries after m rounds. -/
def fullList (f : Int) (k : ByteArray) (m : Nat) : List EntS := (List.range m).map fun i : Nat => ⟨f + 2 * (i : Int), ⟨1, 3⟩, k⟩
/-- The acceptor after m rounds. -/
def fullAcc (wit : Bool) (f : Int) (k : ByteArray) (m : Nat) : AccS := ⟨wit, if m = 0 then ⟨0, 0⟩ else ⟨1, 3⟩, 0, fullList f k m, 0, 0⟩
def keptOf (wit : Bool) (s : ByteArray) : ByteArray := if wit = true then digestOf s else s

theorem fullList_length (f : Int) (k : ByteArray) (m : Nat) : (fullList f k m).length = m := by simp [fullList]
theorem fullList_get (f : Int) (k : ByteArray) (m i : Nat) (h : i < (fullList f k m).length) : (fullList f k m)[i] = ⟨f + 2 * (i : Int), ⟨1, 3⟩, k⟩ := by simp [fullList]
theorem fullList_succ (f : Int) (k : ByteArray) (m : Nat) : fullList f k (m + 1) = fullList f k m ++ [⟨f + 2 * (m : Int), ⟨1, 3⟩, k⟩] := by
  simp [fullList, List.range_succ]
theorem hasSlot_full (f : Int) (k : ByteArray) (m : Nat) (x : Int) : hasSlot (fullList f k m) x = true ↔ ∃ i : Nat, i < m ∧ f + 2 * (i : Int) = x := by
  simp [hasSlot, fullList]
theorem fine_full (wit : Bool) (f : Int) (k : ByteArray) (m : Nat) (hf0 : 1 ≤ f) (hf1 : f ≤ 65536) (hm : m ≤ 64) : (fullAcc wit f k m).fine := by
  refine ⟨⟨by simp [fullAcc, fullList_length]; omega, fun e he => ?_, ?_⟩, by simp [fullAcc], by simp [fullAcc], by simp [fullAcc], by simp [fullAcc], by simp [fullAcc], by simp [fullAcc]⟩
  · simp only [fullAcc, fullList, List.mem_map, List.mem_range] at he
    obtain ⟨i, hi, rfl⟩ := he
    unfold SlotIn
    simp only
    omega
  · rw [List.pairwise_iff_getElem]
    intro i j hi hj hij
    simp only [fullAcc]
    rw [fullList_get f k m i (by simpa [fullAcc] using hi), fullList_get f k m j (by simpa [fullAcc] using hj)]
    simp only
    omega
theorem ahead_full (f : Int) (k : ByteArray) (m : Nat) : aheadOf (fullList f k m) (f + 2 * (m : Int)) = m := by
  refine aheadOf_eq _ _ m (by rw [fullList_length]; omega) (fun t ht h => ?_) (fun t ht h => ?_)
  · rw [fullList_get]; simp only; omega
  · rw [fullList_length] at ht; omega
theorem cmp_of (a b c d : Int) : BalS.cmp ⟨a, b⟩ ⟨c, d⟩ = if (if a < c then (-1 : Int) else if c < a then 1 else 0) = 0 then (if b < d then -1 else if d < b then 1 else 0) else (if a < c then -1 else if c < a then 1 else 0) := rfl
theorem full_step (wit : Bool) (f : Int) (s : ByteArray) (m : Nat) (hf0 : 1 ≤ f) (hm : m < 64) :
    (fullAcc wit f (keptOf wit s) m).accept { bal := ⟨1, 3⟩, slot := f + 2 * (m : Int), text := s } = (fullAcc wit f (keptOf wit s) (m + 1), { kind := 4, bal := ⟨1, 3⟩, slot := f + 2 * (m : Int) }, true) := by
  have hlow : (fullAcc wit f (keptOf wit s) m).low ⟨1, 3⟩ = false := by
    unfold AccS.low fullAcc
    by_cases h : m = 0
    · simp [h, cmp_of]
    · simp [h, cmp_of]
  have hhas : hasSlot (fullList f (keptOf wit s) m) (f + 2 * (m : Int)) = false := by
    rw [Bool.eq_false_iff]
    intro h
    obtain ⟨i, hi, e⟩ := (hasSlot_full _ _ _ _).1 h
    omega
  unfold AccS.accept
  rw [if_neg (by simp [hlow])]
  unfold AccS.acceptOn
  simp only
  rw [if_pos (by simp only [fullAcc]; omega), if_neg (by simp only [fullAcc]; rw [hhas]; simp), if_neg (by simp only [fullAcc]; rw [fullList_length]; omega)]
  have ha := ahead_full f (keptOf wit s) m
  have hk : AccS.kept (fullAcc wit f (keptOf wit s) m) s = keptOf wit s := rfl
  rw [hk]
  simp only [fullAcc]
  rw [ha]
  have h1 : (fullList f (keptOf wit s) m).take m = fullList f (keptOf wit s) m := List.take_of_length_le (by rw [fullList_length]; omega)
  have h2 : (fullList f (keptOf wit s) m).drop m = [] := List.drop_eq_nil_of_le (by rw [fullList_length]; omega)
  rw [h1, h2, fullList_succ]
  simp
/-- The entry of slot x is there. -/
theorem there_full (f : Int) (k : ByteArray) (x : Int) : hasSlot (fullList f k 64) x = decide (f ≤ x ∧ x ≤ f + 126 ∧ (x - f) % 2 = 0) := by
  rw [Bool.eq_iff_iff, hasSlot_full, decide_eq_true_eq]
  constructor
  · rintro ⟨i, hi, rfl⟩; omega
  · rintro ⟨h1, h2, h3⟩
    exact ⟨((x - f) / 2).toNat, by omega, by omega⟩
theorem low_full (wit : Bool) (f : Int) (k : ByteArray) : (fullAcc wit f k 64).low ⟨2, 0⟩ = false := by
  unfold AccS.low fullAcc
  simp [cmp_of]
theorem full_zero (wit : Bool) (f : Int) (k s : ByteArray) (hf0 : 1 ≤ f) :
    (fullAcc wit f k 64).accept { bal := ⟨2, 0⟩, slot := 0, text := s } = ({ fullAcc wit f k 64 with bal := ⟨2, 0⟩ }, { kind := 4, bal := ⟨2, 0⟩, slot := 0 }, true) := by
  unfold AccS.accept
  rw [if_neg (by simp [low_full])]
  unfold AccS.acceptOn
  simp only
  rw [if_neg (by simp [fullAcc])]
  simp [fullAcc]
theorem full_none (wit : Bool) (f : Int) (k s : ByteArray) (x : Int) (hx : 0 < x) (hn : hasSlot (fullList f k 64) x = false) :
    (fullAcc wit f k 64).accept { bal := ⟨2, 0⟩, slot := x, text := s } = (fullAcc wit f k 64, {}, false) := by
  unfold AccS.accept
  rw [if_neg (by simp [low_full])]
  unfold AccS.acceptOn
  simp only
  rw [if_pos (by simpa [fullAcc] using hx), if_neg (by simp only [fullAcc]; rw [hn]; simp), if_pos (by simp [fullAcc, fullList_length])]
theorem full_there (wit : Bool) (f : Int) (k s : ByteArray) (x : Int) (hx : 0 < x) (hn : hasSlot (fullList f k 64) x = true) :
    ∃ L : List EntS, (fullAcc wit f k 64).accept { bal := ⟨2, 0⟩, slot := x, text := s } = ({ fullAcc wit f k 64 with bal := ⟨2, 0⟩, list := L }, { kind := 4, bal := ⟨2, 0⟩, slot := x }, true) ∧ L.length = 64 ∧ L.map EntS.slot = (fullList f k 64).map EntS.slot := by
  obtain ⟨j, hj, hjx⟩ := (hasSlot_full _ _ _ _).1 hn
  have hs : SortedE (fullList f k 64) ∨ True := .inr trivial
  have ha : aheadOf (fullList f k 64) x = j := by
    refine aheadOf_eq _ _ j (by rw [fullList_length]; omega) (fun t ht h => ?_) (fun t ht h => ?_)
    · rw [fullList_get]; simp only; omega
    · rw [fullList_get]; simp only; omega
  refine ⟨(fullList f k 64).set j ⟨x, ⟨2, 0⟩, (fullAcc wit f k 64).kept s⟩, ?_, by rw [List.length_set, fullList_length], ?_⟩
  · unfold AccS.accept
    rw [if_neg (by simp [low_full])]
    unfold AccS.acceptOn
    simp only
    rw [if_pos (by simpa [fullAcc] using hx), if_pos (by simpa only [fullAcc] using hn)]
    have hg : (fullAcc wit f k 64).list.getD (aheadOf (fullAcc wit f k 64).list x) ⟨x, ⟨2, 0⟩, (fullAcc wit f k 64).kept s⟩ = ⟨f + 2 * (j : Int), ⟨1, 3⟩, k⟩ := by
      show (fullList f k 64).getD (aheadOf (fullList f k 64) x) _ = _
      rw [ha, List.getD, List.getElem?_eq_getElem (by rw [fullList_length]; exact hj), fullList_get]
      rfl
    rw [hg, if_neg (by simp [EntS.same])]
    show _ = _
    simp only [fullAcc] at ha ⊢
    rw [ha]
  · rw [List.map_set]
    apply List.ext_getElem
    · simp
    · intro t h1 h2
      rw [List.getElem_set]
      split
      · rename_i h; subst h
        rw [List.getElem_map, fullList_get]
        simp only
        omega
      · rfl
theorem filter_slots (L M : List EntS) (base : Int) (h : L.map EntS.slot = M.map EntS.slot) : (L.filter (keptBy base)).length = (M.filter (keptBy base)).length := by
  have key : ∀ L : List EntS, (L.filter (keptBy base)).length = ((L.map EntS.slot).filter fun z => decide (base < z)).length := by
    intro L
    rw [List.filter_map, List.length_map]
    rfl
  rw [key L, key M, h]
theorem full_filter (f : Int) (k : ByteArray) : ((fullList f k 64).filter (keptBy f)).length = 63 := by
  unfold fullList
  rw [List.filter_map, List.length_map]
  have : ((List.range 64).filter ((keptBy f) ∘ fun i : Nat => (⟨f + 2 * (i : Int), ⟨1, 3⟩, k⟩ : EntS))) = (List.range 64).filter fun i => decide (0 < i) := by
    apply List.filter_congr
    intro i _
    simp only [Function.comp, keptBy, decide_eq_decide]
    omega
  rw [this]
  decide
end Go.Proofs.Ytfhmdeamhmjddaa

/-
  AcceptDigests of layer 16, walked: for every two texts it answers true. Condition: the texts are of sizes that there are.
-/
set_option linter.unusedVariables false
set_option linter.unusedSimpArgs false
set_option maxRecDepth 100000
namespace Go.Proofs.Ytfhmdeamhmjddaa
open Go.RowKit

def cutTo (s : ByteArray) (n : Nat) : ByteArray := if n < s.size then s.extract 0 n else s
theorem cutTo_size (s : ByteArray) (n : Nat) : (cutTo s n).size ≤ n := by
  unfold cutTo
  split
  · simp; omega
  · omega
theorem cut_any (s : ByteArray) (n : Nat) (w : World) (hs : s.size ≤ 9223372036854775807) (hn : n ≤ 1099511627776) :
    Calls Try.prog 9 #[.string s, .int .i64 n] w fun e w' => e = .returned (.string (cutTo s n)) ∧ w = w' := by
  have HC := hd (show cutTo s n = if n < s.size then s.extract 0 n else s from rfl)
  go_enter Try.func9, Try.ntmps9
  by_cases h : n < s.size
  · go_wp2
    go_ret
    rw [HC.out, if_pos h]
    exact ⟨rfl, rfl⟩
  · go_wp2
    go_ret
    rw [HC.out, if_neg h]
    exact ⟨rfl, rfl⟩

theorem digestOf_size (s : ByteArray) : (digestOf s).size = 8 := by simp [digestOf, wideOf_length]

set_option maxHeartbeats 2000000 in
theorem digests_law (a b : ByteArray) (w : World) (ha : a.size ≤ 9223372036854775807) (hb : b.size ≤ 9223372036854775807) :
    Calls Try.prog 3 #[.string a, .string b] w fun e w' => e = .returned (.bool true) ∧ Upd [] w w' := by
  have hca := cutTo_size a 300
  have hcb := cutTo_size b 300
  have h1 := cut_any a 300
  have h2 := cut_any b 300
  go_enter Try.func3, Try.ntmps3
  have HX := hd h1
  have HY := hd h2
  clear h1 h2
  go_wp2_with (first
    | ((with_reducible refine (awake_any _).mono ?_); rintro e w1 ⟨rfl, hu1⟩; have HU1 := hd hu1; clear hu1)
    | fail)
  refine (HX.out w1 ha (by omega)).mono ?_
  rintro e w' ⟨rfl, rfl⟩
  go_wp2_with fail
  refine (HY.out w1 hb (by omega)).mono ?_
  rintro e w' ⟨rfl, rfl⟩
  clear HX HY
  generalize cutTo a 300 = x at *
  generalize cutTo b 300 = y at *
  have D1 := digest_any x
  have D2 := refdigest_any x
  have D3 := digest_any y
  have e8 := digestOf_size y
  have HD1 := hd D1
  have HD2 := hd D2
  have HD3 := hd D3
  clear D1 D2 D3
  by_cases hxy : x = y
  · subst hxy
    generalize digestOf x = dx at *
    go_wp2_with (first
      | ((with_reducible refine (HD1.out _ (by omega)).mono ?_); rintro e w' ⟨rfl, hu⟩; replace HU1 := hd (HU1.out.trans hu); clear hu)
      | ((with_reducible refine (HD2.out _ (by omega)).mono ?_); rintro e w' ⟨rfl, hu⟩; replace HU1 := hd (HU1.out.trans hu); clear hu))
    go_ret
    exact ⟨rfl, HU1.out⟩
  · have hxy' : (x.toList == y.toList) = false := by
      rw [Bool.eq_false_iff]
      intro h
      exact hxy (by
        rw [beq_iff_eq, ByteArray.toList_eq, ByteArray.toList_eq] at h
        exact ByteArray.ext (Array.toList_inj.1 h))
    generalize digestOf x = dx at *
    generalize digestOf y = dy at *
    go_wp2_with (first
      | ((with_reducible refine (HD1.out _ (by omega)).mono ?_); rintro e w' ⟨rfl, hu⟩; replace HU1 := hd (HU1.out.trans hu); clear hu)
      | ((with_reducible refine (HD2.out _ (by omega)).mono ?_); rintro e w' ⟨rfl, hu⟩; replace HU1 := hd (HU1.out.trans hu); clear hu)
      | ((with_reducible refine (HD3.out _ (by omega)).mono ?_); rintro e w' ⟨rfl, hu⟩; replace HU1 := hd (HU1.out.trans hu); clear hu))
    go_ret
    exact ⟨rfl, HU1.out⟩
end Go.Proofs.Ytfhmdeamhmjddaa

/-
  The calls of layer 16's statements made few (chatelainelaw16.Act.Few, chatelainelaw08.Right), walked. Condition: the texts are of sizes that there are.
-/
set_option linter.unusedVariables false
set_option linter.unusedSimpArgs false
set_option maxRecDepth 100000
namespace Go.Proofs.Ytfhmdeamhmjddaa
open Go.RowKit

/-- A call. -/
structure ActS where
  kind : Int
  frm : Int
  slot : Int
  time : Int
  now : Int
  long : Int
  bal : BalS
  text : ByteArray
def ActS.cells (a : ActS) : Array Value := #[.int .i64 a.kind, .int .i64 a.frm, .int .i64 a.slot, .int .i64 a.time, .int .i64 a.now, .int .i64 a.long, .int .u64 a.bal.c, .int .i64 a.bal.n, .string a.text]
def BalS.right (b : BalS) : BalS := ⟨b.c, if b.c = 0 then 0 else b.n % 12⟩
def ActS.few (a : ActS) : ActS := ⟨a.kind, a.frm % 12, a.slot % 256, a.time % 65536, a.now % 65536, a.long % 65536, a.bal.right, cutTo a.text 30⟩

theorem i64_and255 (n : Int) : bits .and .i64 n 255 = n % 256 := by
  have h3 : (BitVec.ofInt 64 255).toNat = 2 ^ 8 - 1 := by decide
  have key : (BitVec.ofInt 64 n &&& BitVec.ofInt 64 255).toNat = (n % ((2 ^ 64 : Nat) : Int)).toNat % 2 ^ 8 := by
    rw [BitVec.toNat_and, BitVec.toNat_ofInt, h3, Nat.and_two_pow_sub_one_eq_mod]
  show IntKind.i64.wrap ((BitVec.ofInt 64 n &&& BitVec.ofInt 64 255).toNat : Nat) = n % 256
  rw [key, IntKind.wrap_i64]
  omega
theorem i64_and65535 (n : Int) : bits .and .i64 n 65535 = n % 65536 := by
  have h3 : (BitVec.ofInt 64 65535).toNat = 2 ^ 16 - 1 := by decide
  have key : (BitVec.ofInt 64 n &&& BitVec.ofInt 64 65535).toNat = (n % ((2 ^ 64 : Nat) : Int)).toNat % 2 ^ 16 := by
    rw [BitVec.toNat_and, BitVec.toNat_ofInt, h3, Nat.and_two_pow_sub_one_eq_mod]
  show IntKind.i64.wrap ((BitVec.ofInt 64 n &&& BitVec.ofInt 64 65535).toNat : Nat) = n % 65536
  rw [key, IntKind.wrap_i64]
  omega
theorem rem12 (n : Int) : (Int.tmod n 12 + 12).tmod 12 = n % 12 := by
  rcases Int.le_total 0 n with h | h
  · rw [Int.tmod_eq_emod_of_nonneg h, Int.tmod_eq_emod_of_nonneg (by omega)]; omega
  · obtain ⟨m, rfl⟩ : ∃ m, n = -m := ⟨-n, by omega⟩
    have h1 := Int.tmod_eq_emod_of_nonneg (a := m) (b := 12) (by omega)
    rw [Int.neg_tmod, h1, Int.tmod_eq_emod_of_nonneg (by omega)]; omega
theorem tmod12 (n : Int) : -12 < Int.tmod n 12 ∧ Int.tmod n 12 < 12 := by
  rcases Int.le_total 0 n with h | h
  · rw [Int.tmod_eq_emod_of_nonneg h]; omega
  · obtain ⟨m, rfl⟩ : ∃ m, n = -m := ⟨-n, by omega⟩
    have h1 := Int.tmod_eq_emod_of_nonneg (a := m) (b := 12) (by omega)
    rw [Int.neg_tmod, h1]; omega

set_option maxHeartbeats 1000000 in
theorem right_any (b : BalS) (w : World) : Calls Try.prog 35 #[.agg #[.int .u64 b.c, .int .i64 b.n]] w fun e w' => e = .returned (.agg #[.int .u64 b.right.c, .int .i64 b.right.n]) ∧ Upd [] w w' := by
  have hr := rem12 b.n
  have hb : 0 ≤ b.n % 12 ∧ b.n % 12 < 12 := by omega
  have ht : -12 < Int.tmod b.n 12 ∧ Int.tmod b.n 12 < 12 := tmod12 b.n
  have HR := hd (show b.right = ⟨b.c, if b.c = 0 then 0 else b.n % 12⟩ from rfl)
  have HU0 := Upd.refl [] w
  go_enter Try.func35, Try.ntmps35
  by_cases h0 : b.c = 0
  · go_wp2
    refine bodyPost_ret (v := .agg #[.int .u64 0, .int .i64 0]) (by simp [results, Try.results35, go_sem]) rfl ?_
    rw [HR.out, if_pos h0, h0]
    exact ⟨rfl, (by repeat (first | with_reducible exact HU0 | with_reducible exact Upd.refl _ _ | with_reducible refine Upd.alloc ?_ _ | with_reducible refine Upd.drew ?_ | with_reducible refine Upd.setCell ?_ (by first | (simp; done) | (simp; omega)) _))⟩
  · go_wp2
    refine bodyPost_ret (v := .agg #[.int .u64 b.c, .int .i64 (b.n % 12)]) (by simp [results, Try.results35, go_sem]) rfl ?_
    rw [HR.out, if_neg h0]
    exact ⟨rfl, (by repeat (first | with_reducible exact HU0 | with_reducible exact Upd.refl _ _ | with_reducible refine Upd.alloc ?_ _ | with_reducible refine Upd.drew ?_ | with_reducible refine Upd.setCell ?_ (by first | (simp; done) | (simp; omega)) _))⟩

set_option maxHeartbeats 1000000 in
theorem few_any (a : ActS) (w : World) (hs : a.text.size ≤ 9223372036854775807) :
    Calls Try.prog 13 #[.agg a.cells] w fun e w' => e = .returned (.agg a.few.cells) ∧ Upd [] w w' := by
  have hr := rem12 a.frm
  have hb : 0 ≤ a.frm % 12 ∧ a.frm % 12 < 12 := by omega
  have ht := tmod12 a.frm
  have e1 := i64_and255 a.slot
  have e2 := i64_and65535 a.time
  have e3 := i64_and65535 a.now
  have e4 := i64_and65535 a.long
  have H1 := hd (right_any a.bal)
  have H2 := hd (fun w => cut_any a.text 30 w hs (by omega))
  have HR := hd (show a.few = ⟨a.kind, a.frm % 12, a.slot % 256, a.time % 65536, a.now % 65536, a.long % 65536, a.bal.right, cutTo a.text 30⟩ from rfl)
  unfold ActS.cells
  go_enter Try.func13, Try.ntmps13
  go_wp2_with fail
  refine (H1.out _).mono ?_
  rintro e w1 ⟨rfl, hu1⟩
  have hA := Blk.upd ((Blk.new w _ _).alloc _) hu1 (by simp)
  have hR := Blk.upd (Blk.new' (w.alloc _) _ _ (k := w.heap.size + 1) (by simp)) hu1 (by simp)
  have hU := hd ((((Upd.refl [] w).alloc _).alloc _).trans hu1)
  have hac := hA.cell
  have haz := hA.frozen
  have hrc := hR.cell
  have hrz := hR.frozen
  clear hA hR hu1
  go_wp2_with fail
  refine (H2.out _).mono ?_
  rintro e w2 ⟨rfl, rfl⟩
  go_wp2_with fail
  refine bodyPost_ret (v := .agg #[.int .i64 a.kind, .int .i64 (a.frm % 12), .int .i64 (a.slot % 256), .int .i64 (a.time % 65536), .int .i64 (a.now % 65536), .int .i64 (a.long % 65536), .int .u64 a.bal.right.c, .int .i64 a.bal.right.n, .string (cutTo a.text 30)]) (by simp [results, Try.results13, go_sem, hrc]) rfl ?_
  rw [HR.out]
  have hx := hU.out
  refine ⟨rfl, ?_⟩
  exact (by repeat (first | with_reducible exact hx | with_reducible exact Upd.refl _ _ | with_reducible refine Upd.alloc ?_ _ | with_reducible refine Upd.drew ?_ | with_reducible refine Upd.setCell ?_ (by first | (simp; done) | (simp; omega)) _))
end Go.Proofs.Ytfhmdeamhmjddaa

/-
  AcceptFull of layer 16, walked: it answers true. No condition.
-/
set_option linter.unusedVariables false
set_option linter.unusedSimpArgs false
set_option maxRecDepth 100000
namespace Go.Proofs.Ytfhmdeamhmjddaa
open Go.RowKit

theorem i64_and262143 (n : Int) : bits .and .i64 n 262143 = n % 262144 := by
  have h3 : (BitVec.ofInt 64 262143).toNat = 2 ^ 18 - 1 := by decide
  have key : (BitVec.ofInt 64 n &&& BitVec.ofInt 64 262143).toNat = (n % ((2 ^ 64 : Nat) : Int)).toNat % 2 ^ 18 := by
    rw [BitVec.toNat_and, BitVec.toNat_ofInt, h3, Nat.and_two_pow_sub_one_eq_mod]
  show IntKind.i64.wrap ((BitVec.ofInt 64 n &&& BitVec.ofInt 64 262143).toNat : Nat) = n % 262144
  rw [key, IntKind.wrap_i64]
  omega
theorem own_ne_any {w : World} {B T sz k T' : Nat} {c : Array Value} {v : Value} {n : Nat} {xs : List Value} (h : w.ownsRow B T sz v n xs) (hb : Blk w k c T') (hT : T ≠ T') : ∀ g, v.ownBlock = some g → g ≠ k := by
  intro g hg
  obtain ⟨a, cap, rfl, -⟩ := own_open h
  cases a with
  | none => cases hg
  | some ad =>
    rcases h.2 with ⟨he, _⟩ | ⟨g', cap', cur, he, hbb, hgg, _⟩
    · cases he
    · rw [he] at hg
      simp only [Value.ownBlock, Option.some.injEq] at hg
      subst hg
      rintro rfl
      rw [Blk, hgg] at hb
      simp only [Option.some.injEq, Obj.cells.injEq] at hb
      exact hT hb.2.1
/-- A block of another type stands behind what an acceptor's call turned. -/
theorem blk_aside {B b k T : Nat} {l l' : Value} {d : AccS} {c : Array Value} {w w' : World} (h : AccAt B w b l d) (hk : Blk w k c T) (hT : 85 ≠ T) (hb : k ≠ b) (hu : WrUp b l l' w w') : Blk w' k c T :=
  hk.upd hu.upd (fun hm => by
    rcases List.mem_cons.1 hm with e | e
    · exact hb e
    · exact own_ne_any h.own hk hT k (by simpa using e) rfl)
theorem upd_aside {B b : Nat} {l l' : Value} {d : AccS} {w w0 w1 : World} (h : AccAt B w0 b l d) (hb : w.heap.size ≤ b) (hB : w.heap.size ≤ B) (hu0 : Upd [] w w0) (hu : WrUp b l l' w0 w1) : Upd [] w w1 :=
  hu0.trans' hu.upd (fun q hq => by
    rcases List.mem_cons.1 hq with e | e
    · exact .inr (by omega)
    · exact .inr (Nat.le_trans hB (own_ge h.own q (by simpa using e)).1))

theorem ballot_c (w : World) (c n : Int) : (Instr.field 35 (.agg #[.int .u64 c, .int .i64 n]) 0).run Try.prog w = .ok (.int .u64 c) w := by
  simp [Instr.field, run_underlying Try.underlying35, asAgg, part]

def letterA : ByteArray := ⟨#[97]⟩
def letterB : ByteArray := ⟨#[98]⟩

set_option maxHeartbeats 8000000 in
theorem full16_law (wit : Bool) (f x : Int) (w : World) :
    Calls Try.prog 5 #[.bool wit, .int .i64 f, .int .i64 x] w fun e w' => e = .returned (.bool true) ∧ Upd [] w w' := by
  have hand := i64_and65535 f
  have hz0 : 0 ≤ f % 65536 ∧ f % 65536 < 65536 := by omega
  generalize f % 65536 = z at *
  have handx := i64_and262143 x
  have hx0 : 0 ≤ x % 262144 ∧ x % 262144 < 262144 := by omega
  generalize x % 262144 = X at *
  obtain ⟨hzl, hzu⟩ := hz0
  obtain ⟨hxl, hxu⟩ := hx0
  go_enter Try.func5, Try.ntmps5
  go_wp2_with fail
  refine (awake_any w).mono ?_
  rintro e w1 ⟨rfl, hu1⟩
  have HU1 := hd hu1
  clear hu1
  go_wp2_with fail
  refine (anew_any wit w1).mono ?_
  rintro e w2 ⟨rfl, hu2, hd2, hlt2⟩
  obtain ⟨b, hb⟩ : ∃ b, b = w1.heap.size := ⟨_, rfl⟩
  rw [← hb] at hd2 hlt2 ⊢
  have hwb : w.heap.size ≤ b := by have := HU1.out.size; omega
  have HU2 := hd (HU1.out.trans hu2)
  have HD2 := hd (show AccAt w.heap.size w2 b (.slice none 0 0) (acc0 wit) from ⟨hd2.blk, own_mono hd2.own (by omega)⟩)
  clear hu2 hd2 hb HU1
  go_wp2_with fail
  have HKB := hd (Blk.new w2 #[.int .u64 1, .int .i64 3] 35)
  have HU3 := hd (HU2.out.alloc (.cells #[.int .u64 1, .int .i64 3] 35))
  have HD3 : Hd (AccAt w.heap.size (w2.alloc (.cells #[.int .u64 1, .int .i64 3] 35)) b (.slice none 0 0) (fullAcc wit (1 + z) (keptOf wit letterA) 0)) := hd (HD2.out.alloc _)
  obtain ⟨kb, hkb⟩ : ∃ kb, kb = w2.heap.size := ⟨_, rfl⟩
  have hkbb : kb ≠ b := by omega
  generalize w2.alloc (.cells #[.int .u64 1, .int .i64 3] 35) = w3 at *
  rw [← hkb] at HKB ⊢
  clear HU2 HD2 hkb hlt2
  have hF1 : 1 ≤ (1 + z) := by omega
  have hF2 : (1 + z) ≤ 65536 := by omega
  go_loopw [25] (fun c wr => ∃ (m : Nat) (l : Value), c = .int .i64 m ∧ m ≤ 64 ∧ Upd [] w wr ∧ AccAt w.heap.size wr b l (fullAcc wit (1 + z) (keptOf wit letterA) m) ∧ Blk wr kb #[.int .u64 1, .int .i64 3] 35) (fun c _ => 64 - (intOf c).toNat)
  case atStart => exact ⟨0, _, rfl, by omega, HU3.out, HD3.out, HKB.out⟩
  case round =>
    clear HU3 HD3 HKB
    obtain ⟨m, l, rfl, hm, hu, ha, hk⟩ := hrel
    have HU := hd hu
    have HA := hd ha
    have HK := hd hk
    by_cases hm64 : m < 64
    · have hacc := accept_any w.heap.size b l (fullAcc wit (1 + z) (keptOf wit letterA) m) { bal := ⟨1, 3⟩, slot := (1 + z) + 2 * (m : Int), text := letterA } none 0 0 wr ha (fine_full wit (1 + z) _ m hF1 hF2 hm) (by unfold SlotIn; simp only; omega) (by show (1 : Nat) ≤ _; omega) hu.size
      rw [full_step wit (1 + z) letterA m hF1 hm64] at hacc
      simp only [MsgS.val, msgC, letterA] at hacc
      have hkc := hk.cell
      have HACC := hd hacc
      clear hacc hu ha hk
      have hwm : IntKind.i64.wrap (2 * (m : Int)) = 2 * (m : Int) := by rw [IntKind.wrap_i64]; omega
      have hwm2 : IntKind.i64.wrap ((1 + z) + 2 * (m : Int)) = (1 + z) + 2 * (m : Int) := by rw [IntKind.wrap_i64]; omega
      go_wp2_with fail
      refine HACC.out.mono ?_
      rintro e w4 ⟨l', rfl, ha', hwu⟩
      have HK4 := hd (blk_aside HA.out HK.out (by decide) hkbb hwu)
      have HU4 := hd (upd_aside HA.out hwb (Nat.le_refl _) HU.out hwu)
      have HA4 := hd ha'
      clear HACC ha' hwu hkc
      go_wp2_with fail
      go_roundw
      case rel => exact ⟨m + 1, l', by go_num, by omega, HU4.out.alloc _, HA4.out.alloc _, HK4.out.alloc _⟩
      case measure => simp [intOf]; omega
    · obtain rfl : m = 64 := by omega
      have hfine := fine_full wit (1 + z) (keptOf wit letterA) 64 hF1 hF2 (by omega)
      have hacc := accept_any w.heap.size b l (fullAcc wit (1 + z) (keptOf wit letterA) 64) { bal := ⟨2, 0⟩, slot := X, text := letterB } none 0 0 wr ha hfine (by unfold SlotIn; simp only; omega) (by show (1 : Nat) ≤ _; omega) hu.size
      have hth := there_full (1 + z) (keptOf wit letterA) X
      obtain ⟨there, hthere⟩ : ∃ t : Bool, t = decide ((1 + z) ≤ X ∧ X ≤ (1 + z) + 126 ∧ (X - (1 + z)) % 2 = 0) := ⟨_, rfl⟩
      rw [← hthere] at hth
      have HTH := hd hthere
      have HACC0 := hd hacc
      clear hthere hacc hu ha hk
      go_upto_region 16 with fail
      go_cut [12] from 47 (fun c wx => c = .bool there ∧ wx = wr)
      case first =>
        by_cases h1 : (1 + z) ≤ X
        · have htm : Int.tmod (X - (1 + z)) 2 = (X - (1 + z)) % 2 := Int.tmod_eq_emod_of_nonneg (by omega)
          by_cases h2 : X ≤ (1 + z) + 126
          · by_cases h3 : (X - (1 + z)) % 2 = 0
            · have hv : there = true := by rw [HTH.out]; exact decide_eq_true ⟨h1, h2, h3⟩
              go_wp2_with fail
              go_meet
              case rel => exact ⟨by rw [hv], rfl⟩
            · have h3' : (X - (1 + z)) % 2 = 1 := by omega
              have hv : there = false := by rw [HTH.out]; exact decide_eq_false (fun h => h3 h.2.2)
              go_wp2_with fail
              go_meet
              case rel => exact ⟨by rw [hv], rfl⟩
          · have hv : there = false := by rw [HTH.out]; exact decide_eq_false (fun h => h2 h.2.1)
            go_wp2_with fail
            go_meet
            case rel => exact ⟨by rw [hv], rfl⟩
        · have hv : there = false := by rw [HTH.out]; exact decide_eq_false (fun h => h1 h.1)
          go_wp2_with fail
          go_meet
          case rel => exact ⟨by rw [hv], rfl⟩
      case rest =>
       obtain ⟨rfl, hwc⟩ := hcut
       subst hwc
       have hacc := HACC0.out
       clear HACC0
       rcases (by by_cases h : X = 0 <;> cases there <;> simp [h] : there = false ∧ X = 0 ∨ (there = false ∧ ¬ X = 0) ∨ there = true) with ⟨hv, hX⟩ | ⟨hv, hX⟩ | hv
       · subst hv
         subst hX
         rw [full_zero wit (1 + z) _ letterB hF1] at hacc
         simp only [MsgS.val, msgC, letterB] at hacc
         have HACC := hd hacc
         clear hacc hth
         go_wp2_with fail
         refine HACC.out.mono ?_
         rintro e w4 ⟨l', rfl, ha', hwu⟩
         have HU4 := hd (upd_aside HA.out hwb (Nat.le_refl _) HU.out hwu)
         have HA4 := hd ha'
         clear HACC ha' hwu
         go_wp2_with fail
         have hlen : (({ fullAcc wit (1 + z) (keptOf wit letterA) 64 with bal := ⟨2, 0⟩ } : AccS).list.length) = 64 := fullList_length _ _ _
         refine (list_any w.heap.size b l' _ _ (HA4.out.alloc (.cells #[.int .i64 4, .int .i64 0, .int .i64 0, .int .i64 0, .int .u64 2, .int .i64 0, .int .i64 0, .int .i64 0, .bool false, .string ⟨#[]⟩, .slice none 0 0] 41)) (by rw [hlen]; omega)).mono ?_
         rintro e w5 ⟨v', rfl, hu5, ho5⟩
         rw [hlen] at ho5
         obtain ⟨xa, xc, rfl, -⟩ := own_open ho5
         have HU5 := hd ((HU4.out.alloc _).trans hu5)
         clear hu5 ho5
         go_wp2_with fail
         go_ret
         exact ⟨rfl, HU5.out⟩
       · subst hv
         have hX0 : 0 < X := by omega
         have hXb : (X == 0) = false := by simpa using hX
         rw [full_none wit (1 + z) _ letterB X hX0 hth] at hacc
         simp only [MsgS.val, msgC, letterB] at hacc
         have HACC := hd hacc
         clear hacc hth
         go_wp2_with fail
         refine HACC.out.mono ?_
         rintro e w4 ⟨l', rfl, ha', hwu⟩
         have hk4 := blk_aside HA.out HK.out (by decide) hkbb hwu
         have HK5 := hd (hk4.alloc (.cells #[.int .i64 0, .int .i64 0, .int .i64 0, .int .i64 0, .int .u64 0, .int .i64 0, .int .i64 0, .int .i64 0, .bool false, .string ⟨#[]⟩, .slice none 0 0] 41))
         have HG5 := hd (Blk.new w4 #[.int .i64 0, .int .i64 0, .int .i64 0, .int .i64 0, .int .u64 0, .int .i64 0, .int .i64 0, .int .i64 0, .bool false, .string ⟨#[]⟩, .slice none 0 0] 41)
         have HU5 := hd ((upd_aside HA.out hwb (Nat.le_refl _) HU.out hwu).alloc (.cells #[.int .i64 0, .int .i64 0, .int .i64 0, .int .i64 0, .int .u64 0, .int .i64 0, .int .i64 0, .int .i64 0, .bool false, .string ⟨#[]⟩, .slice none 0 0] 41))
         have HA5 := hd (ha'.alloc (.cells #[.int .i64 0, .int .i64 0, .int .i64 0, .int .i64 0, .int .u64 0, .int .i64 0, .int .i64 0, .int .i64 0, .bool false, .string ⟨#[]⟩, .slice none 0 0] 41))
         clear HACC ha' hwu hk4 HU HA HK
         obtain ⟨kg, hkg⟩ : ∃ kg, kg = w4.heap.size := ⟨_, rfl⟩
         go_upto_region 21 with fail
         generalize w4.alloc (.cells #[.int .i64 0, .int .i64 0, .int .i64 0, .int .i64 0, .int .u64 0, .int .i64 0, .int .i64 0, .int .i64 0, .bool false, .string ⟨#[]⟩, .slice none 0 0] 41) = W5 at *
         rw [← hkg] at HG5 ⊢
         clear hkg
         have hkc := HK5.out.cell
         have hgc := HG5.out.cell
         have HPQ : Hd (∀ W, Upd [] W5 W → Calls Try.prog 14 #[.pointer (some ⟨b, 0, none⟩)] W fun e w' => e = .returned (.agg #[.int .u64 1, .int .i64 3]) ∧ Upd [] W w') := hd (fun W hu => promised_any _ b _ _ W (HA5.out.later hu))
         have HLQ : Hd (∀ W, Upd [] W5 W → Calls Try.prog 20 #[.pointer (some ⟨b, 0, none⟩)] W fun r w' => ∃ v', r = .returned v' ∧ Upd [] W w' ∧ w'.ownsRow W.heap.size 85 4 v' 64 (entCells (fullList (1 + z) (keptOf wit letterA) 64))) := hd (fun W hu => by
           have := list_any _ b _ _ W (HA5.out.later hu) (by simp [fullAcc, fullList_length])
           simp only [fullAcc, fullList_length] at this
           exact this)
         have HKG := hd (fun w6 (hu : Upd [] W5 w6) => (⟨(HG5.out.upd hu (by simp)).cell 0, (HK5.out.upd hu (by simp)).cell 0, (HK5.out.upd hu (by simp)).cell 1⟩ : w6.cell? ⟨kg, 0, none⟩ = some (.int .i64 0) ∧ w6.cell? ⟨kb, 0, none⟩ = some (.int .u64 1) ∧ w6.cell? ⟨kb, 1, none⟩ = some (.int .i64 3)))
         go_region_held3 (fun w' => w'.cell? ⟨kg, 0, none⟩ = some (.int .i64 0) ∧ w'.cell? ⟨kb, 0, none⟩ = some (.int .u64 1) ∧ w'.cell? ⟨kb, 1, none⟩ = some (.int .i64 3)) (go_keep)
           (first
             | ((with_reducible refine (HPQ.out _ (Upd.refl [] W5).drew).mono ?_); rintro e w6 ⟨rfl, hu6⟩; have hu7 := (Upd.refl [] W5).drew.trans hu6; obtain ⟨s0, s1, s2⟩ := HKG.out w6 hu7; have HU7 := hd hu7; clear hu6 hu7)
             | ((with_reducible refine (HLQ.out _ HU7.out).mono ?_); rintro e w8 ⟨v', rfl, hu8, ho8⟩; obtain ⟨xa, xc, rfl, -⟩ := own_open ho8; have hu9 := HU7.out.trans hu8; obtain ⟨t0, t1, t2⟩ := HKG.out w8 hu9; have HU9 := hd hu9; clear hu8 hu9 ho8))
         go_wp2_with fail
         go_ret
         exact ⟨rfl, HU5.out.trans HU9.out⟩
       · subst hv
         have hX0 : 0 < X := by
           have := HTH.out
           have h := of_decide_eq_true this.symm
           omega
         have hXb : (X == 0) = false := by simp; omega
         obtain ⟨L, hL, hLl, hLm⟩ := full_there wit (1 + z) (keptOf wit letterA) letterB X hX0 hth
         rw [hL] at hacc
         simp only [MsgS.val, msgC, letterB] at hacc
         have hfl : (L.filter (keptBy (1 + z))).length = 63 := by rw [filter_slots L _ (1 + z) hLm, full_filter]
         have HACC := hd hacc
         have HFL := hd hfl
         have HLL := hd hLl
         clear hacc hth hL hLm hfl hLl
         go_wp2_with fail
         refine HACC.out.mono ?_
         rintro e w4 ⟨l', rfl, ha', hwu⟩
         have HU5 := hd ((upd_aside HA.out hwb (Nat.le_refl _) HU.out hwu).alloc (.cells #[.int .i64 4, .int .i64 0, .int .i64 0, .int .i64 0, .int .u64 2, .int .i64 0, .int .i64 X, .int .i64 0, .bool false, .string ⟨#[]⟩, .slice none 0 0] 41))
         have HA5 := hd (ha'.alloc (.cells #[.int .i64 4, .int .i64 0, .int .i64 0, .int .i64 0, .int .u64 2, .int .i64 0, .int .i64 X, .int .i64 0, .bool false, .string ⟨#[]⟩, .slice none 0 0] 41))
         clear HACC ha' hwu HU HA HK
         go_wp2_with fail
         refine (show Calls Try.prog 14 #[.pointer (some ⟨b, 0, none⟩)] _ fun e w' => e = .returned (.agg #[.int .u64 2, .int .i64 0]) ∧ Upd [] _ w' from promised_any _ b _ _ _ HA5.out).mono ?_
         rintro e w6 ⟨rfl, hu6⟩
         have HU6 := hd (HU5.out.trans hu6)
         have HA6 := hd (HA5.out.later hu6)
         clear hu6 HU5 HA5
         have hfd := fun W => ballot_c W 2 0
         go_wp2_with fail
         obtain ⟨d5, hd5⟩ : ∃ d5 : AccS, d5 = { fullAcc wit (1 + z) (keptOf wit letterA) 64 with bal := ⟨2, 0⟩, list := L } := ⟨_, rfl⟩
         have hdb : d5.base = 0 := by rw [hd5]; rfl
         have hdl : d5.list = L := by rw [hd5]
         have HA6' : Hd (AccAt w.heap.size w6 b l' d5) := hd (by rw [hd5]; exact HA6.out)
         have htr := trim_any w.heap.size b l' d5 (1 + z) w6 HA6'.out (by rw [hdl, HLL.out]; omega) HU6.out.size
         have e1 : d5.trim (1 + z) = { d5 with base := 1 + z, list := L.filter (keptBy (1 + z)) } := by unfold AccS.trim; rw [if_pos (by rw [hdb]; omega), hdl]
         have e2 : decide (d5.base < 1 + z) = true := decide_eq_true (by rw [hdb]; omega)
         rw [e1, e2] at htr
         clear hd5 hdb hdl e1 e2
         refine htr.mono ?_
         rintro e w7 ⟨l7, rfl, ha7, hwu7⟩
         have HU7 := hd (upd_aside HA6'.out hwb (Nat.le_refl _) HU6.out hwu7)
         have HA7 := hd ha7
         clear htr ha7 hwu7 HU6 HA6 HA6'
         go_wp2_with fail
         refine (list_any w.heap.size b l7 _ w7 HA7.out (by show (L.filter (keptBy (1 + z))).length ≤ 1024; rw [HFL.out]; omega)).mono ?_
         rintro e w8 ⟨v', rfl, hu8, ho8⟩
         have ho9 : w8.ownsRow w7.heap.size 85 4 v' 63 (entCells (L.filter (keptBy (1 + z)))) := by
           have := ho8
           simp only [HFL.out] at this
           exact this
         obtain ⟨xa, xc, rfl, -⟩ := own_open ho9
         have HU8 := hd (HU7.out.trans hu8)
         have HA8 := hd (HA7.out.later hu8)
         clear hu8 ho8 ho9 HU7 HA7
         go_wp2_with fail
         refine (base_any _ b _ _ w8 HA8.out).mono ?_
         rintro e w9 ⟨rfl, rfl⟩
         go_wp2_with fail
         go_ret
         exact ⟨rfl, HU8.out⟩
end Go.Proofs.Ytfhmdeamhmjddaa
