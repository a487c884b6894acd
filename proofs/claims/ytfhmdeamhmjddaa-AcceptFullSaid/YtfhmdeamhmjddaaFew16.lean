/-
  The calls of layer 16's statements made few (chatelainelaw16.Act.Few, chatelainelaw08.Right), walked. Condition: the texts are of sizes that there are.
-/
import Derived.Test.YtfhmdeamhmjddaaAsk1
import Derived.Test.YtfhmdeamhmjddaaDig16
set_option linter.unusedVariables false
set_option linter.unusedSimpArgs false
set_option maxRecDepth 100000
namespace Go.Proofs.Ytfhmdeamhmjddaa
open Go.RowKit

/-- A call. -/
structure ActS where
  kind : Int
  frm : Int
  slot : Int
  time : Int
  now : Int
  long : Int
  bal : BalS
  text : ByteArray
def ActS.cells (a : ActS) : Array Value := #[.int .i64 a.kind, .int .i64 a.frm, .int .i64 a.slot, .int .i64 a.time, .int .i64 a.now, .int .i64 a.long, .int .u64 a.bal.c, .int .i64 a.bal.n, .string a.text]
def BalS.right (b : BalS) : BalS := ⟨b.c, if b.c = 0 then 0 else b.n % 12⟩
def ActS.few (a : ActS) : ActS := ⟨a.kind, a.frm % 12, a.slot % 256, a.time % 65536, a.now % 65536, a.long % 65536, a.bal.right, cutTo a.text 30⟩

theorem i64_and255 (n : Int) : bits .and .i64 n 255 = n % 256 := by
  have h3 : (BitVec.ofInt 64 255).toNat = 2 ^ 8 - 1 := by decide
  have key : (BitVec.ofInt 64 n &&& BitVec.ofInt 64 255).toNat = (n % ((2 ^ 64 : Nat) : Int)).toNat % 2 ^ 8 := by
    rw [BitVec.toNat_and, BitVec.toNat_ofInt, h3, Nat.and_two_pow_sub_one_eq_mod]
  show IntKind.i64.wrap ((BitVec.ofInt 64 n &&& BitVec.ofInt 64 255).toNat : Nat) = n % 256
  rw [key, IntKind.wrap_i64]
  omega
theorem i64_and65535 (n : Int) : bits .and .i64 n 65535 = n % 65536 := by
  have h3 : (BitVec.ofInt 64 65535).toNat = 2 ^ 16 - 1 := by decide
  have key : (BitVec.ofInt 64 n &&& BitVec.ofInt 64 65535).toNat = (n % ((2 ^ 64 : Nat) : Int)).toNat % 2 ^ 16 := by
    rw [BitVec.toNat_and, BitVec.toNat_ofInt, h3, Nat.and_two_pow_sub_one_eq_mod]
  show IntKind.i64.wrap ((BitVec.ofInt 64 n &&& BitVec.ofInt 64 65535).toNat : Nat) = n % 65536
  rw [key, IntKind.wrap_i64]
  omega
theorem rem12 (n : Int) : (Int.tmod n 12 + 12).tmod 12 = n % 12 := by
  rcases Int.le_total 0 n with h | h
  · rw [Int.tmod_eq_emod_of_nonneg h, Int.tmod_eq_emod_of_nonneg (by omega)]; omega
  · obtain ⟨m, rfl⟩ : ∃ m, n = -m := ⟨-n, by omega⟩
    have h1 := Int.tmod_eq_emod_of_nonneg (a := m) (b := 12) (by omega)
    rw [Int.neg_tmod, h1, Int.tmod_eq_emod_of_nonneg (by omega)]; omega
theorem tmod12 (n : Int) : -12 < Int.tmod n 12 ∧ Int.tmod n 12 < 12 := by
  rcases Int.le_total 0 n with h | h
  · rw [Int.tmod_eq_emod_of_nonneg h]; omega
  · obtain ⟨m, rfl⟩ : ∃ m, n = -m := ⟨-n, by omega⟩
    have h1 := Int.tmod_eq_emod_of_nonneg (a := m) (b := 12) (by omega)
    rw [Int.neg_tmod, h1]; omega

set_option maxHeartbeats 1000000 in
theorem right_any (b : BalS) (w : World) : Calls Try.prog 35 #[.agg #[.int .u64 b.c, .int .i64 b.n]] w fun e w' => e = .returned (.agg #[.int .u64 b.right.c, .int .i64 b.right.n]) ∧ Upd [] w w' := by
  have hr := rem12 b.n
  have hb : 0 ≤ b.n % 12 ∧ b.n % 12 < 12 := by omega
  have ht : -12 < Int.tmod b.n 12 ∧ Int.tmod b.n 12 < 12 := tmod12 b.n
  have HR := hd (show b.right = ⟨b.c, if b.c = 0 then 0 else b.n % 12⟩ from rfl)
  have HU0 := Upd.refl [] w
  go_enter Try.func35, Try.ntmps35
  by_cases h0 : b.c = 0
  · go_wp2
    refine bodyPost_ret (v := .agg #[.int .u64 0, .int .i64 0]) (by simp [results, Try.results35, go_sem]) rfl ?_
    rw [HR.out, if_pos h0, h0]
    exact ⟨rfl, (by repeat (first | with_reducible exact HU0 | with_reducible exact Upd.refl _ _ | with_reducible refine Upd.alloc ?_ _ | with_reducible refine Upd.drew ?_ | with_reducible refine Upd.setCell ?_ (by first | (simp; done) | (simp; omega)) _))⟩
  · go_wp2
    refine bodyPost_ret (v := .agg #[.int .u64 b.c, .int .i64 (b.n % 12)]) (by simp [results, Try.results35, go_sem]) rfl ?_
    rw [HR.out, if_neg h0]
    exact ⟨rfl, (by repeat (first | with_reducible exact HU0 | with_reducible exact Upd.refl _ _ | with_reducible refine Upd.alloc ?_ _ | with_reducible refine Upd.drew ?_ | with_reducible refine Upd.setCell ?_ (by first | (simp; done) | (simp; omega)) _))⟩

set_option maxHeartbeats 1000000 in
theorem few_any (a : ActS) (w : World) (hs : a.text.size ≤ 9223372036854775807) :
    Calls Try.prog 13 #[.agg a.cells] w fun e w' => e = .returned (.agg a.few.cells) ∧ Upd [] w w' := by
  have hr := rem12 a.frm
  have hb : 0 ≤ a.frm % 12 ∧ a.frm % 12 < 12 := by omega
  have ht := tmod12 a.frm
  have e1 := i64_and255 a.slot
  have e2 := i64_and65535 a.time
  have e3 := i64_and65535 a.now
  have e4 := i64_and65535 a.long
  have H1 := hd (right_any a.bal)
  have H2 := hd (fun w => cut_any a.text 30 w hs (by omega))
  have HR := hd (show a.few = ⟨a.kind, a.frm % 12, a.slot % 256, a.time % 65536, a.now % 65536, a.long % 65536, a.bal.right, cutTo a.text 30⟩ from rfl)
  unfold ActS.cells
  go_enter Try.func13, Try.ntmps13
  go_wp2_with fail
  refine (H1.out _).mono ?_
  rintro e w1 ⟨rfl, hu1⟩
  have hA := Blk.upd ((Blk.new w _ _).alloc _) hu1 (by simp)
  have hR := Blk.upd (Blk.new' (w.alloc _) _ _ (k := w.heap.size + 1) (by simp)) hu1 (by simp)
  have hU := hd ((((Upd.refl [] w).alloc _).alloc _).trans hu1)
  have hac := hA.cell
  have haz := hA.frozen
  have hrc := hR.cell
  have hrz := hR.frozen
  clear hA hR hu1
  go_wp2_with fail
  refine (H2.out _).mono ?_
  rintro e w2 ⟨rfl, rfl⟩
  go_wp2_with fail
  refine bodyPost_ret (v := .agg #[.int .i64 a.kind, .int .i64 (a.frm % 12), .int .i64 (a.slot % 256), .int .i64 (a.time % 65536), .int .i64 (a.now % 65536), .int .i64 (a.long % 65536), .int .u64 a.bal.right.c, .int .i64 a.bal.right.n, .string (cutTo a.text 30)]) (by simp [results, Try.results13, go_sem, hrc]) rfl ?_
  rw [HR.out]
  have hx := hU.out
  refine ⟨rfl, ?_⟩
  exact (by repeat (first | with_reducible exact hx | with_reducible exact Upd.refl _ _ | with_reducible refine Upd.alloc ?_ _ | with_reducible refine Upd.drew ?_ | with_reducible refine Upd.setCell ?_ (by first | (simp; done) | (simp; omega)) _))
end Go.Proofs.Ytfhmdeamhmjddaa
