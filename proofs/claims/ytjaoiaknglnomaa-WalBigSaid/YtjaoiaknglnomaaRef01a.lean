/-
  chatelaineref01, walked: wide, U, N, S. Condition: the sizes that each theorem states.
-/
import Derived.Test.YtjaoiaknglnomaaCode4
set_option linter.unusedVariables false
set_option linter.unusedSimpArgs false
set_option maxRecDepth 100000
namespace Go.Proofs.Ytjaoiaknglnomaa
open Go.RowKit

/-- Bytes as a text. -/
def txt (l : List UInt8) : ByteArray := ⟨l.toArray⟩
@[simp] theorem txt_size (l : List UInt8) : (txt l).size = l.length := by simp [txt, ByteArray.size]
theorem txt_append (a b : List UInt8) : txt a ++ txt b = txt (a ++ b) := by
  apply ByteArray.ext; simp [txt, ByteArray.data_append]
theorem txt_data (s : ByteArray) : txt s.data.toList = s := by apply ByteArray.ext; simp [txt]

set_option maxHeartbeats 1000000 in
theorem refwide_any (x n : Nat) (w : World) (hx : x < 18446744073709551616) (hn : n ≤ 8) :
    Calls Try.prog 71 #[.int .u64 x, .int .i64 n] w fun e w' => e = .returned (.string (txt (wideOf x n))) ∧ Upd [] w w' := by
  go_enter Try.func71, Try.ntmps71
  go_wp2_with fail
  go_loopw [0, 5, 6] (fun y s i wr => ∃ j : Nat, j ≤ n ∧ i = .int .i64 j ∧ y = .int .u64 ((x / 256 ^ j : Nat) : Int) ∧ s = .string (txt (wideOf x j)) ∧ Upd [] w wr) (fun _ _ i _ => n - (intOf i).toNat)
  case atStart => exact ⟨0, Nat.zero_le _, rfl, by simp, rfl, Upd.refl _ _⟩
  case round =>
    obtain ⟨j, hj, rfl, rfl, rfl, hu⟩ := hrel
    have HU := hd hu
    clear hu
    by_cases hjn : j < n
    · have hy : x / 256 ^ j < 18446744073709551616 := Nat.lt_of_le_of_lt (Nat.div_le_self _ _) hx
      have hdiv := hd (show (((x / 256 ^ j : Nat) : Int) / 256) = ((x / 256 ^ (j + 1) : Nat) : Int) by rw [Nat.pow_succ, ← Nat.div_div_eq_div_mul]; simp)
      generalize hye : x / 256 ^ j = y at *
      have hs : ∀ W : World, (Op.stringOp .add (txt [UInt8.ofNat y]) (txt (wideOf x j))).run Try.prog W = .ok (.string (txt (UInt8.ofNat y :: wideOf x j))) W := fun W => by
        rw [run_string_add_sum _ _ _ (by simp [wideOf_length]; omega), txt_append]; rfl
      go_wp2_with (refine wpList_conv_string rfl 47 9 5 (.tmp 15) rfl wr.heap.size 0 1 1 (txt [UInt8.ofNat y]) rfl Try.underlying47 Try.underlying5 Try.underlying9 (by simp) (fun i hi => by
        obtain rfl : i = 0 := by simpa using hi
        simp [txt]) ?_)
      refine ⟨⟨j + 1, by omega, by go_num, by rw [hdiv.out], by rw [← hye]; rfl, HU.out.alloc _⟩, by simp [intOf]; omega⟩
    · go_wp2_with fail
      go_ret
      obtain rfl : j = n := by omega
      exact ⟨rfl, HU.out⟩

theorem refU_any (x : Nat) (w : World) (hx : x < 18446744073709551616) :
    Calls Try.prog 44 #[.int .u64 x] w fun e w' => e = .returned (.string (txt (uBytes x))) ∧ Upd [] w w' := by
  obtain ⟨z, hz⟩ : ∃ z : Int, z = x := ⟨_, rfl⟩
  have H1 := refwide_any x
  rw [← hz] at H1 ⊢
  have hH := hd (show (z < 252 ∧ headOf x = (UInt8.ofNat x, 0)) ∨ (¬ z < 252 ∧ z < 65536 ∧ headOf x = (252, 2)) ∨ (¬ z < 252 ∧ ¬ z < 65536 ∧ z < 4294967296 ∧ headOf x = (253, 4)) ∨ (¬ z < 252 ∧ ¬ z < 65536 ∧ ¬ z < 4294967296 ∧ headOf x = (254, 8)) by
    unfold headOf
    split
    · exact .inl ⟨by omega, rfl⟩
    split
    · exact .inr (.inl ⟨by omega, by omega, rfl⟩)
    split
    · exact .inr (.inr (.inl ⟨by omega, by omega, by omega, rfl⟩))
    · exact .inr (.inr (.inr ⟨by omega, by omega, by omega, rfl⟩)))
  have HX := hd hx
  have H1 := hd H1
  have hs : ∀ (b : UInt8) (n : Nat) (W : World), n ≤ 8 → (Op.stringOp .add (txt [b]) (txt (wideOf x n))).run Try.prog W = .ok (.string (txt (b :: wideOf x n))) W := fun b n W hn => by
    rw [run_string_add_sum _ _ _ (by simp [wideOf_length]; omega), txt_append]; rfl
  have hs2 := fun W => hs 252 2 W (by omega)
  have hs4 := fun W => hs 253 4 W (by omega)
  have hs8 := fun W => hs 254 8 W (by omega)
  clear hz hx hs
  rcases hH.out with ⟨h, e⟩ | ⟨h, h', e⟩ | ⟨h, h', h'', e⟩ | ⟨h, h', h'', e⟩
  · have E := hd e
    clear e hH
    go_enter Try.func44, Try.ntmps44
    go_wp2_with fail
    refine (H1.out 1 _ HX.out (by omega)).mono ?_
    rintro e w1 ⟨rfl, hu⟩
    go_wp2_with fail
    go_ret
    refine ⟨?_, hu⟩
    unfold uBytes
    rw [E.out]
    simp [wideOf]
  · have E := hd e
    clear e hH
    go_enter Try.func44, Try.ntmps44
    go_wp2_with fail
    refine (H1.out 2 _ HX.out (by omega)).mono ?_
    rintro e w1 ⟨rfl, hu⟩
    go_wp2_with fail
    go_ret
    refine ⟨?_, hu⟩
    unfold uBytes
    rw [E.out, show (⟨#[252]⟩ : ByteArray) = txt [252] from rfl, txt_append]
    rfl
  · have E := hd e
    clear e hH
    go_enter Try.func44, Try.ntmps44
    go_wp2_with fail
    refine (H1.out 4 _ HX.out (by omega)).mono ?_
    rintro e w1 ⟨rfl, hu⟩
    go_wp2_with fail
    go_ret
    refine ⟨?_, hu⟩
    unfold uBytes
    rw [E.out, show (⟨#[253]⟩ : ByteArray) = txt [253] from rfl, txt_append]
    rfl
  · have E := hd e
    clear e hH
    go_enter Try.func44, Try.ntmps44
    go_wp2_with fail
    refine (H1.out 8 _ HX.out (by omega)).mono ?_
    rintro e w1 ⟨rfl, hu⟩
    go_wp2_with fail
    go_ret
    refine ⟨?_, hu⟩
    unfold uBytes
    rw [E.out, show (⟨#[254]⟩ : ByteArray) = txt [254] from rfl, txt_append]
    rfl

theorem refN_any (x : Int) (w : World) (hx : x ≤ 9223372036854775807) :
    Calls Try.prog 72 #[.int .i64 x] w fun e w' => e = .returned (.string (txt (nBytes x))) ∧ Upd [] w w' := by
  have HU := hd (refU_any x.toNat w (by omega))
  by_cases h0 : x < 0
  · rw [show ((x.toNat : Nat) : Int) = 0 by omega] at HU
    go_enter Try.func72, Try.ntmps72
    go_wp2_with fail
    refine HU.out.mono ?_
    rintro e w1 ⟨rfl, hu⟩
    go_wp2_with fail
    go_ret
    exact ⟨rfl, hu⟩
  · rw [show ((x.toNat : Nat) : Int) = x by omega] at HU
    go_enter Try.func72, Try.ntmps72
    go_wp2_with fail
    refine HU.out.mono ?_
    rintro e w1 ⟨rfl, hu⟩
    go_wp2_with fail
    go_ret
    exact ⟨rfl, hu⟩

theorem refS_any (s : ByteArray) (w : World) (hs : s.size ≤ 9223372036854775000) :
    Calls Try.prog 45 #[.string s] w fun e w' => e = .returned (.string (txt (sBytes s))) ∧ Upd [] w w' := by
  have HU := hd (refN_any s.size w (by omega))
  have hn := nBytes_le (s.size : Int)
  have hsz : (txt (nBytes (s.size : Int))).size ≤ 9 := by simpa using hn
  have HE := hd (show txt (nBytes (s.size : Int)) ++ s = txt (sBytes s) by
    unfold sBytes
    rw [← txt_append, txt_data])
  generalize txt (nBytes (s.size : Int)) = T at *
  clear hn
  go_enter Try.func45, Try.ntmps45
  go_wp2_with fail
  refine HU.out.mono ?_
  rintro e w1 ⟨rfl, hu⟩
  go_wp2_with fail
  go_ret
  rw [HE.out]
  exact ⟨rfl, hu⟩
end Go.Proofs.Ytjaoiaknglnomaa
