/-
  AcceptFull of layer 16, the plain law: what an acceptor holds that accepted sixty-four entries of every second slot. No condition beyond those that each theorem states.
-/
import Derived.Test.YtfhmdeamhmjddaaPm9
import Derived.Test.YtfhmdeamhmjddaaPm4
import Derived.Test.YtfhmdeamhmjddaaPm8
set_option linter.unusedVariables false
set_option linter.unusedSimpArgs false
set_option maxRecDepth 100000
namespace Go.Proofs.Ytfhmdeamhmjddaa

/-- The entries after m rounds. -/
def fullList (f : Int) (k : ByteArray) (m : Nat) : List EntS := (List.range m).map fun i : Nat => ⟨f + 2 * (i : Int), ⟨1, 3⟩, k⟩
/-- The acceptor after m rounds. -/
def fullAcc (wit : Bool) (f : Int) (k : ByteArray) (m : Nat) : AccS := ⟨wit, if m = 0 then ⟨0, 0⟩ else ⟨1, 3⟩, 0, fullList f k m, 0, 0⟩
def keptOf (wit : Bool) (s : ByteArray) : ByteArray := if wit = true then digestOf s else s

theorem fullList_length (f : Int) (k : ByteArray) (m : Nat) : (fullList f k m).length = m := by simp [fullList]
theorem fullList_get (f : Int) (k : ByteArray) (m i : Nat) (h : i < (fullList f k m).length) : (fullList f k m)[i] = ⟨f + 2 * (i : Int), ⟨1, 3⟩, k⟩ := by simp [fullList]
theorem fullList_succ (f : Int) (k : ByteArray) (m : Nat) : fullList f k (m + 1) = fullList f k m ++ [⟨f + 2 * (m : Int), ⟨1, 3⟩, k⟩] := by
  simp [fullList, List.range_succ]
theorem hasSlot_full (f : Int) (k : ByteArray) (m : Nat) (x : Int) : hasSlot (fullList f k m) x = true ↔ ∃ i : Nat, i < m ∧ f + 2 * (i : Int) = x := by
  simp [hasSlot, fullList]
theorem fine_full (wit : Bool) (f : Int) (k : ByteArray) (m : Nat) (hf0 : 1 ≤ f) (hf1 : f ≤ 65536) (hm : m ≤ 64) : (fullAcc wit f k m).fine := by
  refine ⟨⟨by simp [fullAcc, fullList_length]; omega, fun e he => ?_, ?_⟩, by simp [fullAcc], by simp [fullAcc], by simp [fullAcc], by simp [fullAcc], by simp [fullAcc], by simp [fullAcc]⟩
  · simp only [fullAcc, fullList, List.mem_map, List.mem_range] at he
    obtain ⟨i, hi, rfl⟩ := he
    unfold SlotIn
    simp only
    omega
  · rw [List.pairwise_iff_getElem]
    intro i j hi hj hij
    simp only [fullAcc]
    rw [fullList_get f k m i (by simpa [fullAcc] using hi), fullList_get f k m j (by simpa [fullAcc] using hj)]
    simp only
    omega
theorem ahead_full (f : Int) (k : ByteArray) (m : Nat) : aheadOf (fullList f k m) (f + 2 * (m : Int)) = m := by
  refine aheadOf_eq _ _ m (by rw [fullList_length]; omega) (fun t ht h => ?_) (fun t ht h => ?_)
  · rw [fullList_get]; simp only; omega
  · rw [fullList_length] at ht; omega
theorem cmp_of (a b c d : Int) : BalS.cmp ⟨a, b⟩ ⟨c, d⟩ = if (if a < c then (-1 : Int) else if c < a then 1 else 0) = 0 then (if b < d then -1 else if d < b then 1 else 0) else (if a < c then -1 else if c < a then 1 else 0) := rfl
theorem full_step (wit : Bool) (f : Int) (s : ByteArray) (m : Nat) (hf0 : 1 ≤ f) (hm : m < 64) :
    (fullAcc wit f (keptOf wit s) m).accept { bal := ⟨1, 3⟩, slot := f + 2 * (m : Int), text := s } = (fullAcc wit f (keptOf wit s) (m + 1), { kind := 4, bal := ⟨1, 3⟩, slot := f + 2 * (m : Int) }, true) := by
  have hlow : (fullAcc wit f (keptOf wit s) m).low ⟨1, 3⟩ = false := by
    unfold AccS.low fullAcc
    by_cases h : m = 0
    · simp [h, cmp_of]
    · simp [h, cmp_of]
  have hhas : hasSlot (fullList f (keptOf wit s) m) (f + 2 * (m : Int)) = false := by
    rw [Bool.eq_false_iff]
    intro h
    obtain ⟨i, hi, e⟩ := (hasSlot_full _ _ _ _).1 h
    omega
  unfold AccS.accept
  rw [if_neg (by simp [hlow])]
  unfold AccS.acceptOn
  simp only
  rw [if_pos (by simp only [fullAcc]; omega), if_neg (by simp only [fullAcc]; rw [hhas]; simp), if_neg (by simp only [fullAcc]; rw [fullList_length]; omega)]
  have ha := ahead_full f (keptOf wit s) m
  have hk : AccS.kept (fullAcc wit f (keptOf wit s) m) s = keptOf wit s := rfl
  rw [hk]
  simp only [fullAcc]
  rw [ha]
  have h1 : (fullList f (keptOf wit s) m).take m = fullList f (keptOf wit s) m := List.take_of_length_le (by rw [fullList_length]; omega)
  have h2 : (fullList f (keptOf wit s) m).drop m = [] := List.drop_eq_nil_of_le (by rw [fullList_length]; omega)
  rw [h1, h2, fullList_succ]
  simp
/-- The entry of slot x is there. -/
theorem there_full (f : Int) (k : ByteArray) (x : Int) : hasSlot (fullList f k 64) x = decide (f ≤ x ∧ x ≤ f + 126 ∧ (x - f) % 2 = 0) := by
  rw [Bool.eq_iff_iff, hasSlot_full, decide_eq_true_eq]
  constructor
  · rintro ⟨i, hi, rfl⟩; omega
  · rintro ⟨h1, h2, h3⟩
    exact ⟨((x - f) / 2).toNat, by omega, by omega⟩
theorem low_full (wit : Bool) (f : Int) (k : ByteArray) : (fullAcc wit f k 64).low ⟨2, 0⟩ = false := by
  unfold AccS.low fullAcc
  simp [cmp_of]
theorem full_zero (wit : Bool) (f : Int) (k s : ByteArray) (hf0 : 1 ≤ f) :
    (fullAcc wit f k 64).accept { bal := ⟨2, 0⟩, slot := 0, text := s } = ({ fullAcc wit f k 64 with bal := ⟨2, 0⟩ }, { kind := 4, bal := ⟨2, 0⟩, slot := 0 }, true) := by
  unfold AccS.accept
  rw [if_neg (by simp [low_full])]
  unfold AccS.acceptOn
  simp only
  rw [if_neg (by simp [fullAcc])]
  simp [fullAcc]
theorem full_none (wit : Bool) (f : Int) (k s : ByteArray) (x : Int) (hx : 0 < x) (hn : hasSlot (fullList f k 64) x = false) :
    (fullAcc wit f k 64).accept { bal := ⟨2, 0⟩, slot := x, text := s } = (fullAcc wit f k 64, {}, false) := by
  unfold AccS.accept
  rw [if_neg (by simp [low_full])]
  unfold AccS.acceptOn
  simp only
  rw [if_pos (by simpa [fullAcc] using hx), if_neg (by simp only [fullAcc]; rw [hn]; simp), if_pos (by simp [fullAcc, fullList_length])]
theorem full_there (wit : Bool) (f : Int) (k s : ByteArray) (x : Int) (hx : 0 < x) (hn : hasSlot (fullList f k 64) x = true) :
    ∃ L : List EntS, (fullAcc wit f k 64).accept { bal := ⟨2, 0⟩, slot := x, text := s } = ({ fullAcc wit f k 64 with bal := ⟨2, 0⟩, list := L }, { kind := 4, bal := ⟨2, 0⟩, slot := x }, true) ∧ L.length = 64 ∧ L.map EntS.slot = (fullList f k 64).map EntS.slot := by
  obtain ⟨j, hj, hjx⟩ := (hasSlot_full _ _ _ _).1 hn
  have hs : SortedE (fullList f k 64) ∨ True := .inr trivial
  have ha : aheadOf (fullList f k 64) x = j := by
    refine aheadOf_eq _ _ j (by rw [fullList_length]; omega) (fun t ht h => ?_) (fun t ht h => ?_)
    · rw [fullList_get]; simp only; omega
    · rw [fullList_get]; simp only; omega
  refine ⟨(fullList f k 64).set j ⟨x, ⟨2, 0⟩, (fullAcc wit f k 64).kept s⟩, ?_, by rw [List.length_set, fullList_length], ?_⟩
  · unfold AccS.accept
    rw [if_neg (by simp [low_full])]
    unfold AccS.acceptOn
    simp only
    rw [if_pos (by simpa [fullAcc] using hx), if_pos (by simpa only [fullAcc] using hn)]
    have hg : (fullAcc wit f k 64).list.getD (aheadOf (fullAcc wit f k 64).list x) ⟨x, ⟨2, 0⟩, (fullAcc wit f k 64).kept s⟩ = ⟨f + 2 * (j : Int), ⟨1, 3⟩, k⟩ := by
      show (fullList f k 64).getD (aheadOf (fullList f k 64) x) _ = _
      rw [ha, List.getD, List.getElem?_eq_getElem (by rw [fullList_length]; exact hj), fullList_get]
      rfl
    rw [hg, if_neg (by simp [EntS.same])]
    show _ = _
    simp only [fullAcc] at ha ⊢
    rw [ha]
  · rw [List.map_set]
    apply List.ext_getElem
    · simp
    · intro t h1 h2
      rw [List.getElem_set]
      split
      · rename_i h; subst h
        rw [List.getElem_map, fullList_get]
        simp only
        omega
      · rfl
theorem filter_slots (L M : List EntS) (base : Int) (h : L.map EntS.slot = M.map EntS.slot) : (L.filter (keptBy base)).length = (M.filter (keptBy base)).length := by
  have key : ∀ L : List EntS, (L.filter (keptBy base)).length = ((L.map EntS.slot).filter fun z => decide (base < z)).length := by
    intro L
    rw [List.filter_map, List.length_map]
    rfl
  rw [key L, key M, h]
theorem full_filter (f : Int) (k : ByteArray) : ((fullList f k 64).filter (keptBy f)).length = 63 := by
  unfold fullList
  rw [List.filter_map, List.length_map]
  have : ((List.range 64).filter ((keptBy f) ∘ fun i : Nat => (⟨f + 2 * (i : Int), ⟨1, 3⟩, k⟩ : EntS))) = (List.range 64).filter fun i => decide (0 < i) := by
    apply List.filter_congr
    intro i _
    simp only [Function.comp, keptBy, decide_eq_decide]
    omega
  rw [this]
  decide
end Go.Proofs.Ytfhmdeamhmjddaa

/-
  AcceptDigests of layer 16, walked: for every two texts it answers true. Condition: the texts are of sizes that there are.
-/
set_option linter.unusedVariables false
set_option linter.unusedSimpArgs false
set_option maxRecDepth 100000
namespace Go.Proofs.Ytfhmdeamhmjddaa
open Go.RowKit

def cutTo (s : ByteArray) (n : Nat) : ByteArray := if n < s.size then s.extract 0 n else s
theorem cutTo_size (s : ByteArray) (n : Nat) : (cutTo s n).size ≤ n := by
  unfold cutTo
  split
  · simp; omega
  · omega
theorem cut_any (s : ByteArray) (n : Nat) (w : World) (hs : s.size ≤ 9223372036854775807) (hn : n ≤ 1099511627776) :
    Calls Try.prog 9 #[.string s, .int .i64 n] w fun e w' => e = .returned (.string (cutTo s n)) ∧ w = w' := by
  have HC := hd (show cutTo s n = if n < s.size then s.extract 0 n else s from rfl)
  go_enter Try.func9, Try.ntmps9
  by_cases h : n < s.size
  · go_wp2
    go_ret
    rw [HC.out, if_pos h]
    exact ⟨rfl, rfl⟩
  · go_wp2
    go_ret
    rw [HC.out, if_neg h]
    exact ⟨rfl, rfl⟩

theorem digestOf_size (s : ByteArray) : (digestOf s).size = 8 := by simp [digestOf, wideOf_length]

set_option maxHeartbeats 2000000 in
theorem digests_law (a b : ByteArray) (w : World) (ha : a.size ≤ 9223372036854775807) (hb : b.size ≤ 9223372036854775807) :
    Calls Try.prog 3 #[.string a, .string b] w fun e w' => e = .returned (.bool true) ∧ Upd [] w w' := by
  have hca := cutTo_size a 300
  have hcb := cutTo_size b 300
  have h1 := cut_any a 300
  have h2 := cut_any b 300
  go_enter Try.func3, Try.ntmps3
  have HX := hd h1
  have HY := hd h2
  clear h1 h2
  go_wp2_with (first
    | ((with_reducible refine (awake_any _).mono ?_); rintro e w1 ⟨rfl, hu1⟩; have HU1 := hd hu1; clear hu1)
    | fail)
  refine (HX.out w1 ha (by omega)).mono ?_
  rintro e w' ⟨rfl, rfl⟩
  go_wp2_with fail
  refine (HY.out w1 hb (by omega)).mono ?_
  rintro e w' ⟨rfl, rfl⟩
  clear HX HY
  generalize cutTo a 300 = x at *
  generalize cutTo b 300 = y at *
  have D1 := digest_any x
  have D2 := refdigest_any x
  have D3 := digest_any y
  have e8 := digestOf_size y
  have HD1 := hd D1
  have HD2 := hd D2
  have HD3 := hd D3
  clear D1 D2 D3
  by_cases hxy : x = y
  · subst hxy
    generalize digestOf x = dx at *
    go_wp2_with (first
      | ((with_reducible refine (HD1.out _ (by omega)).mono ?_); rintro e w' ⟨rfl, hu⟩; replace HU1 := hd (HU1.out.trans hu); clear hu)
      | ((with_reducible refine (HD2.out _ (by omega)).mono ?_); rintro e w' ⟨rfl, hu⟩; replace HU1 := hd (HU1.out.trans hu); clear hu))
    go_ret
    exact ⟨rfl, HU1.out⟩
  · have hxy' : (x.toList == y.toList) = false := by
      rw [Bool.eq_false_iff]
      intro h
      exact hxy (by
        rw [beq_iff_eq, ByteArray.toList_eq, ByteArray.toList_eq] at h
        exact ByteArray.ext (Array.toList_inj.1 h))
    generalize digestOf x = dx at *
    generalize digestOf y = dy at *
    go_wp2_with (first
      | ((with_reducible refine (HD1.out _ (by omega)).mono ?_); rintro e w' ⟨rfl, hu⟩; replace HU1 := hd (HU1.out.trans hu); clear hu)
      | ((with_reducible refine (HD2.out _ (by omega)).mono ?_); rintro e w' ⟨rfl, hu⟩; replace HU1 := hd (HU1.out.trans hu); clear hu)
      | ((with_reducible refine (HD3.out _ (by omega)).mono ?_); rintro e w' ⟨rfl, hu⟩; replace HU1 := hd (HU1.out.trans hu); clear hu))
    go_ret
    exact ⟨rfl, HU1.out⟩
end Go.Proofs.Ytfhmdeamhmjddaa

/-
  The calls of layer 16's statements made few (chatelainelaw16.Act.Few, chatelainelaw08.Right), walked. Condition: the texts are of sizes that there are.
-/
set_option linter.unusedVariables false
set_option linter.unusedSimpArgs false
set_option maxRecDepth 100000
namespace Go.Proofs.Ytfhmdeamhmjddaa
open Go.RowKit

/-- A call. -/
structure ActS where
  kind : Int
  frm : Int
  slot : Int
  time : Int
  now : Int
  long : Int
  bal : BalS
  text : ByteArray
def ActS.cells (a : ActS) : Array Value := #[.int .i64 a.kind, .int .i64 a.frm, .int .i64 a.slot, .int .i64 a.time, .int .i64 a.now, .int .i64 a.long, .int .u64 a.bal.c, .int .i64 a.bal.n, .string a.text]
def BalS.right (b : BalS) : BalS := ⟨b.c, if b.c = 0 then 0 else b.n % 12⟩
def ActS.few (a : ActS) : ActS := ⟨a.kind, a.frm % 12, a.slot % 256, a.time % 65536, a.now % 65536, a.long % 65536, a.bal.right, cutTo a.text 30⟩

theorem i64_and255 (n : Int) : bits .and .i64 n 255 = n % 256 := by
  have h3 : (BitVec.ofInt 64 255).toNat = 2 ^ 8 - 1 := by decide
  have key : (BitVec.ofInt 64 n &&& BitVec.ofInt 64 255).toNat = (n % ((2 ^ 64 : Nat) : Int)).toNat % 2 ^ 8 := by
    rw [BitVec.toNat_and, BitVec.toNat_ofInt, h3, Nat.and_two_pow_sub_one_eq_mod]
  show IntKind.i64.wrap ((BitVec.ofInt 64 n &&& BitVec.ofInt 64 255).toNat : Nat) = n % 256
  rw [key, IntKind.wrap_i64]
  omega
theorem i64_and65535 (n : Int) : bits .and .i64 n 65535 = n % 65536 := by
  have h3 : (BitVec.ofInt 64 65535).toNat = 2 ^ 16 - 1 := by decide
  have key : (BitVec.ofInt 64 n &&& BitVec.ofInt 64 65535).toNat = (n % ((2 ^ 64 : Nat) : Int)).toNat % 2 ^ 16 := by
    rw [BitVec.toNat_and, BitVec.toNat_ofInt, h3, Nat.and_two_pow_sub_one_eq_mod]
  show IntKind.i64.wrap ((BitVec.ofInt 64 n &&& BitVec.ofInt 64 65535).toNat : Nat) = n % 65536
  rw [key, IntKind.wrap_i64]
  omega
theorem rem12 (n : Int) : (Int.tmod n 12 + 12).tmod 12 = n % 12 := by
  rcases Int.le_total 0 n with h | h
  · rw [Int.tmod_eq_emod_of_nonneg h, Int.tmod_eq_emod_of_nonneg (by omega)]; omega
  · obtain ⟨m, rfl⟩ : ∃ m, n = -m := ⟨-n, by omega⟩
    have h1 := Int.tmod_eq_emod_of_nonneg (a := m) (b := 12) (by omega)
    rw [Int.neg_tmod, h1, Int.tmod_eq_emod_of_nonneg (by omega)]; omega
theorem tmod12 (n : Int) : -12 < Int.tmod n 12 ∧ Int.tmod n 12 < 12 := by
  rcases Int.le_total 0 n with h | h
  · rw [Int.tmod_eq_emod_of_nonneg h]; omega
  · obtain ⟨m, rfl⟩ : ∃ m, n = -m := ⟨-n, by omega⟩
    have h1 := Int.tmod_eq_emod_of_nonneg (a := m) (b := 12) (by omega)
    rw [Int.neg_tmod, h1]; omega

set_option maxHeartbeats 1000000 in
theorem right_any (b : BalS) (w : World) : Calls Try.prog 35 #[.agg #[.int .u64 b.c, .int .i64 b.n]] w fun e w' => e = .returned (.agg #[.int .u64 b.right.c, .int .i64 b.right.n]) ∧ Upd [] w w' := by
  have hr := rem12 b.n
  have hb : 0 ≤ b.n % 12 ∧ b.n % 12 < 12 := by omega
  have ht : -12 < Int.tmod b.n 12 ∧ Int.tmod b.n 12 < 12 := tmod12 b.n
  have HR := hd (show b.right = ⟨b.c, if b.c = 0 then 0 else b.n % 12⟩ from rfl)
  have HU0 := Upd.refl [] w
  go_enter Try.func35, Try.ntmps35
  by_cases h0 : b.c = 0
  · go_wp2
    refine bodyPost_ret (v := .agg #[.int .u64 0, .int .i64 0]) (by simp [results, Try.results35, go_sem]) rfl ?_
    rw [HR.out, if_pos h0, h0]
    exact ⟨rfl, (by repeat (first | with_reducible exact HU0 | with_reducible exact Upd.refl _ _ | with_reducible refine Upd.alloc ?_ _ | with_reducible refine Upd.drew ?_ | with_reducible refine Upd.setCell ?_ (by first | (simp; done) | (simp; omega)) _))⟩
  · go_wp2
    refine bodyPost_ret (v := .agg #[.int .u64 b.c, .int .i64 (b.n % 12)]) (by simp [results, Try.results35, go_sem]) rfl ?_
    rw [HR.out, if_neg h0]
    exact ⟨rfl, (by repeat (first | with_reducible exact HU0 | with_reducible exact Upd.refl _ _ | with_reducible refine Upd.alloc ?_ _ | with_reducible refine Upd.drew ?_ | with_reducible refine Upd.setCell ?_ (by first | (simp; done) | (simp; omega)) _))⟩

set_option maxHeartbeats 1000000 in
theorem few_any (a : ActS) (w : World) (hs : a.text.size ≤ 9223372036854775807) :
    Calls Try.prog 13 #[.agg a.cells] w fun e w' => e = .returned (.agg a.few.cells) ∧ Upd [] w w' := by
  have hr := rem12 a.frm
  have hb : 0 ≤ a.frm % 12 ∧ a.frm % 12 < 12 := by omega
  have ht := tmod12 a.frm
  have e1 := i64_and255 a.slot
  have e2 := i64_and65535 a.time
  have e3 := i64_and65535 a.now
  have e4 := i64_and65535 a.long
  have H1 := hd (right_any a.bal)
  have H2 := hd (fun w => cut_any a.text 30 w hs (by omega))
  have HR := hd (show a.few = ⟨a.kind, a.frm % 12, a.slot % 256, a.time % 65536, a.now % 65536, a.long % 65536, a.bal.right, cutTo a.text 30⟩ from rfl)
  unfold ActS.cells
  go_enter Try.func13, Try.ntmps13
  go_wp2_with fail
  refine (H1.out _).mono ?_
  rintro e w1 ⟨rfl, hu1⟩
  have hA := Blk.upd ((Blk.new w _ _).alloc _) hu1 (by simp)
  have hR := Blk.upd (Blk.new' (w.alloc _) _ _ (k := w.heap.size + 1) (by simp)) hu1 (by simp)
  have hU := hd ((((Upd.refl [] w).alloc _).alloc _).trans hu1)
  have hac := hA.cell
  have haz := hA.frozen
  have hrc := hR.cell
  have hrz := hR.frozen
  clear hA hR hu1
  go_wp2_with fail
  refine (H2.out _).mono ?_
  rintro e w2 ⟨rfl, rfl⟩
  go_wp2_with fail
  refine bodyPost_ret (v := .agg #[.int .i64 a.kind, .int .i64 (a.frm % 12), .int .i64 (a.slot % 256), .int .i64 (a.time % 65536), .int .i64 (a.now % 65536), .int .i64 (a.long % 65536), .int .u64 a.bal.right.c, .int .i64 a.bal.right.n, .string (cutTo a.text 30)]) (by simp [results, Try.results13, go_sem, hrc]) rfl ?_
  rw [HR.out]
  have hx := hU.out
  refine ⟨rfl, ?_⟩
  exact (by repeat (first | with_reducible exact hx | with_reducible exact Upd.refl _ _ | with_reducible refine Upd.alloc ?_ _ | with_reducible refine Upd.drew ?_ | with_reducible refine Upd.setCell ?_ (by first | (simp; done) | (simp; omega)) _))
end Go.Proofs.Ytfhmdeamhmjddaa
