/-
  AcceptDigests of layer 16, walked: for every two texts it answers true. Condition: the texts are of sizes that there are.
-/
import Derived.Test.YtfhmdeamhmjddaaAcc6
set_option linter.unusedVariables false
set_option linter.unusedSimpArgs false
set_option maxRecDepth 100000
namespace Go.Proofs.Ytfhmdeamhmjddaa
open Go.RowKit

def cutTo (s : ByteArray) (n : Nat) : ByteArray := if n < s.size then s.extract 0 n else s
theorem cutTo_size (s : ByteArray) (n : Nat) : (cutTo s n).size ≤ n := by
  unfold cutTo
  split
  · simp; omega
  · omega
theorem cut_any (s : ByteArray) (n : Nat) (w : World) (hs : s.size ≤ 9223372036854775807) (hn : n ≤ 1099511627776) :
    Calls Try.prog 9 #[.string s, .int .i64 n] w fun e w' => e = .returned (.string (cutTo s n)) ∧ w = w' := by
  have HC := hd (show cutTo s n = if n < s.size then s.extract 0 n else s from rfl)
  go_enter Try.func9, Try.ntmps9
  by_cases h : n < s.size
  · go_wp2
    go_ret
    rw [HC.out, if_pos h]
    exact ⟨rfl, rfl⟩
  · go_wp2
    go_ret
    rw [HC.out, if_neg h]
    exact ⟨rfl, rfl⟩

theorem digestOf_size (s : ByteArray) : (digestOf s).size = 8 := by simp [digestOf, wideOf_length]

set_option maxHeartbeats 2000000 in
theorem digests_law (a b : ByteArray) (w : World) (ha : a.size ≤ 9223372036854775807) (hb : b.size ≤ 9223372036854775807) :
    Calls Try.prog 3 #[.string a, .string b] w fun e w' => e = .returned (.bool true) ∧ Upd [] w w' := by
  have hca := cutTo_size a 300
  have hcb := cutTo_size b 300
  have h1 := cut_any a 300
  have h2 := cut_any b 300
  go_enter Try.func3, Try.ntmps3
  have HX := hd h1
  have HY := hd h2
  clear h1 h2
  go_wp2_with (first
    | ((with_reducible refine (awake_any _).mono ?_); rintro e w1 ⟨rfl, hu1⟩; have HU1 := hd hu1; clear hu1)
    | fail)
  refine (HX.out w1 ha (by omega)).mono ?_
  rintro e w' ⟨rfl, rfl⟩
  go_wp2_with fail
  refine (HY.out w1 hb (by omega)).mono ?_
  rintro e w' ⟨rfl, rfl⟩
  clear HX HY
  generalize cutTo a 300 = x at *
  generalize cutTo b 300 = y at *
  have D1 := digest_any x
  have D2 := refdigest_any x
  have D3 := digest_any y
  have e8 := digestOf_size y
  have HD1 := hd D1
  have HD2 := hd D2
  have HD3 := hd D3
  clear D1 D2 D3
  by_cases hxy : x = y
  · subst hxy
    generalize digestOf x = dx at *
    go_wp2_with (first
      | ((with_reducible refine (HD1.out _ (by omega)).mono ?_); rintro e w' ⟨rfl, hu⟩; replace HU1 := hd (HU1.out.trans hu); clear hu)
      | ((with_reducible refine (HD2.out _ (by omega)).mono ?_); rintro e w' ⟨rfl, hu⟩; replace HU1 := hd (HU1.out.trans hu); clear hu))
    go_ret
    exact ⟨rfl, HU1.out⟩
  · have hxy' : (x.toList == y.toList) = false := by
      rw [Bool.eq_false_iff]
      intro h
      exact hxy (by
        rw [beq_iff_eq, ByteArray.toList_eq, ByteArray.toList_eq] at h
        exact ByteArray.ext (Array.toList_inj.1 h))
    generalize digestOf x = dx at *
    generalize digestOf y = dy at *
    go_wp2_with (first
      | ((with_reducible refine (HD1.out _ (by omega)).mono ?_); rintro e w' ⟨rfl, hu⟩; replace HU1 := hd (HU1.out.trans hu); clear hu)
      | ((with_reducible refine (HD2.out _ (by omega)).mono ?_); rintro e w' ⟨rfl, hu⟩; replace HU1 := hd (HU1.out.trans hu); clear hu)
      | ((with_reducible refine (HD3.out _ (by omega)).mono ?_); rintro e w' ⟨rfl, hu⟩; replace HU1 := hd (HU1.out.trans hu); clear hu))
    go_ret
    exact ⟨rfl, HU1.out⟩
end Go.Proofs.Ytfhmdeamhmjddaa
