/-
  seal: more, Sum, number, walked. Conditions: those that each theorem states.
-/
import Derived.Test.YtjaoiaknglnomaaRead2
set_option linter.unusedVariables false
set_option linter.unusedSimpArgs false
set_option maxRecDepth 100000
namespace Go.Proofs.Ytjaoiaknglnomaa
open Go.RowKit

/-- One bit of a sum. -/
def polyN : Nat := 3988292384
def crcStep (c : Nat) : Nat := if c % 2 = 1 then (c / 2) ^^^ polyN else c / 2
def crcSteps (c : Nat) : Nat → Nat
  | 0 => c
  | n + 1 => crcStep (crcSteps c n)
def moreN (c : Nat) (b : UInt8) : Nat := crcSteps (c ^^^ b.toNat) 8
/-- The sum of bytes. -/
def sumN (l : List UInt8) : Nat := 4294967295 - l.foldl moreN 4294967295

theorem crcStep_lt (c : Nat) (h : c < 4294967296) : crcStep c < 4294967296 := by
  unfold crcStep
  split
  · exact Nat.xor_lt_two_pow (n := 32) (by omega) (by unfold polyN; omega)
  · omega
theorem crcSteps_lt (c : Nat) (h : c < 4294967296) : ∀ n, crcSteps c n < 4294967296
  | 0 => h
  | n + 1 => crcStep_lt _ (crcSteps_lt c h n)
theorem moreN_lt (c : Nat) (b : UInt8) (h : c < 4294967296) : moreN c b < 4294967296 :=
  crcSteps_lt _ (Nat.xor_lt_two_pow (n := 32) (by omega) (by have := b.toNat_lt; omega)) 8
theorem foldMore_lt (l : List UInt8) (c : Nat) (h : c < 4294967296) : l.foldl moreN c < 4294967296 := by
  induction l generalizing c with
  | nil => exact h
  | cons b r ih => exact ih _ (moreN_lt c b h)

theorem u32_xor (a b : Nat) (ha : a < 4294967296) (hb : b < 4294967296) : bits .xor .u32 (a : Int) (b : Int) = ((a ^^^ b : Nat) : Int) := by
  have h1 : (BitVec.ofInt 32 (a : Int) ^^^ BitVec.ofInt 32 (b : Int)).toNat = a ^^^ b := by
    rw [BitVec.toNat_xor, BitVec.toNat_ofInt, BitVec.toNat_ofInt]
    have e1 : ((a : Int) % ((2 ^ 32 : Nat) : Int)).toNat = a := by omega
    have e2 : ((b : Int) % ((2 ^ 32 : Nat) : Int)).toNat = b := by omega
    rw [e1, e2]
  show IntKind.u32.wrap ((BitVec.ofInt 32 (a : Int) ^^^ BitVec.ofInt 32 (b : Int)).toNat : Nat) = _
  have h2 : a ^^^ b < 4294967296 := Nat.xor_lt_two_pow (n := 32) (by omega) (by omega)
  rw [h1, IntKind.wrap_u32]
  omega
theorem u32_and1 (a : Nat) (ha : a < 4294967296) : bits .and .u32 (a : Int) 1 = ((a % 2 : Nat) : Int) := by
  have h1 : (BitVec.ofInt 32 (a : Int) &&& BitVec.ofInt 32 1).toNat = a % 2 := by
    rw [BitVec.toNat_and, BitVec.toNat_ofInt]
    have e1 : ((a : Int) % ((2 ^ 32 : Nat) : Int)).toNat = a := by omega
    rw [e1, show (BitVec.ofInt 32 1).toNat = 2 ^ 1 - 1 by decide, Nat.and_two_pow_sub_one_eq_mod]
  show IntKind.u32.wrap ((BitVec.ofInt 32 (a : Int) &&& BitVec.ofInt 32 1).toNat : Nat) = _
  rw [h1, IntKind.wrap_u32]
  omega
theorem u32_shl_or (v b : Nat) (hv : v * 256 < 4294967296) (hb : b < 256) : bits .or .u32 ((v : Int) * 256) (b : Int) = ((v * 256 + b : Nat) : Int) := by
  have h1 : (BitVec.ofInt 32 ((v : Int) * 256) ||| BitVec.ofInt 32 (b : Int)).toNat = v * 256 + b := by
    rw [BitVec.toNat_or, BitVec.toNat_ofInt, BitVec.toNat_ofInt]
    have e1 : (((v : Int) * 256) % ((2 ^ 32 : Nat) : Int)).toNat = v * 256 := by omega
    have e2 : ((b : Int) % ((2 ^ 32 : Nat) : Int)).toNat = b := by omega
    rw [e1, e2]
    have h := Nat.shiftLeft_add_eq_or_of_lt (a := v) (show b < 2 ^ 8 by omega)
    rw [Nat.shiftLeft_eq] at h
    exact h.symm
  show IntKind.u32.wrap ((BitVec.ofInt 32 ((v : Int) * 256) ||| BitVec.ofInt 32 (b : Int)).toNat : Nat) = _
  rw [h1, IntKind.wrap_u32]
  omega

theorem more_any (c : Nat) (b : UInt8) (w : World) (hc : c < 4294967296) :
    Calls Try.prog 108 #[.int .u32 c, .int .u8 (b.toNat : Int)] w fun x w' => x = .returned (.int .u32 (moreN c b : Nat)) ∧ w = w' := by
  have hb : b.toNat < 256 := b.toNat_lt
  have hx := u32_xor c b.toNat hc (by omega)
  have hxl : c ^^^ b.toNat < 4294967296 := Nat.xor_lt_two_pow (n := 32) (by omega) (by omega)
  have HM := hd (show moreN c b = crcSteps (c ^^^ b.toNat) 8 from rfl)
  generalize b.toNat = n at *
  generalize c ^^^ n = d at *
  go_enter Try.func108, Try.ntmps108
  go_wp2_with fail
  go_loop [0, 10] (fun v i => ∃ j : Nat, j ≤ 8 ∧ i = .int .i64 j ∧ v = .int .u32 (crcSteps d j : Nat)) (fun _ i => 8 - (intOf i).toNat)
  case atStart => exact ⟨0, by omega, rfl, by first | rfl | (simp [crcSteps]; done)⟩
  case round =>
    obtain ⟨j, hj, rfl, rfl⟩ := hrel
    have hlt := crcSteps_lt d hxl j
    by_cases hj8 : j < 8
    · have HS := hd (show crcSteps d (j + 1) = crcStep (crcSteps d j) from rfl)
      generalize crcSteps d j = q at *
      have ha := u32_and1 q hlt
      by_cases hq : q % 2 = 1
      · have hq' : (q : Int) % 2 = 1 := by omega
        have hp : bits .xor .u32 ((q : Int) / 2) 3988292384 = (((q / 2) ^^^ polyN : Nat) : Int) := by
          have := u32_xor (q / 2) polyN (by omega) (by unfold polyN; omega)
          rw [← this]
          rfl
        have HC := hd (show crcStep q = (q / 2) ^^^ polyN by unfold crcStep; rw [if_pos hq])
        go_wp2_with fail
        go_round
        case rel => exact ⟨j + 1, by omega, by go_num, by rw [HS.out, HC.out]⟩
        case measure => simp [intOf]; omega
      · have hq' : (q : Int) % 2 = 0 := by omega
        have HC := hd (show crcStep q = q / 2 by unfold crcStep; rw [if_neg hq])
        go_wp2_with fail
        go_round
        case rel => exact ⟨j + 1, by omega, by go_num, by rw [HS.out, HC.out]; exact congrArg _ (by omega)⟩
        case measure => simp [intOf]; omega
    · obtain rfl : j = 8 := by omega
      go_wp2_with fail
      go_ret
      rw [HM.out]
      exact ⟨rfl, rfl⟩

theorem u32_not (C : Nat) (h : C < 4294967296) : bits .xor .u32 IntKind.u32.max (C : Int) = ((4294967295 - C : Nat) : Int) := by
  have e : IntKind.u32.max = ((4294967295 : Nat) : Int) := by decide
  rw [e, u32_xor _ _ (by omega) h]
  have h1 : (BitVec.allOnes 32 ^^^ BitVec.ofNat 32 C).toNat = 4294967295 - C := by
    rw [BitVec.allOnes_xor, BitVec.toNat_not, BitVec.toNat_ofNat]
    omega
  rw [BitVec.toNat_xor, BitVec.toNat_allOnes, BitVec.toNat_ofNat, Nat.mod_eq_of_lt (by omega)] at h1
  rw [← h1]
theorem txt_at (l : List UInt8) (j : Nat) (h : j < l.length) (h' : j < (txt l).size) : (txt l)[j]'h' = l[j] := by
  show (txt l).data[j]'_ = _
  first | (simp [txt]; done) | (simp [txt]; rfl)

theorem sum_any (l : List UInt8) (ka : Nat) (w : World) (ha : Blk w ka #[.string (txt l)] 9) (hl : l.length ≤ 1099511627776) :
    Calls Try.prog 104 #[.slice (some ⟨ka, 0, none⟩) 1 1] w fun x w' => x = .returned (.int .u32 (sumN l : Nat)) ∧ w = w' := by
  have hc := ha.cell
  have HS := hd (show sumN l = 4294967295 - l.foldl moreN 4294967295 from rfl)
  clear ha
  go_enter Try.func104, Try.ntmps104
  go_wp2_with fail
  go_loop [3, 9] (fun v i => (i = .int .i64 0 ∧ v = .int .u32 4294967295) ∨ (i = .int .i64 1 ∧ v = .int .u32 (l.foldl moreN 4294967295 : Nat))) (fun _ i => 1 - (intOf i).toNat)
  case atStart => exact .inl ⟨rfl, rfl⟩
  case round =>
    rcases hrel with ⟨rfl, rfl⟩ | ⟨rfl, rfl⟩
    · go_wp2_with fail
      go_loop [3, 15] (fun v i => ∃ j : Nat, j ≤ l.length ∧ i = .int .i64 j ∧ v = .int .u32 ((l.take j).foldl moreN 4294967295 : Nat)) (fun _ i => l.length - (intOf i).toNat)
      case atStart => exact ⟨0, Nat.zero_le _, rfl, rfl⟩
      case round =>
        obtain ⟨j, hj, rfl, rfl⟩ := hrel
        by_cases hjl : j < l.length
        · have hjl' : (j : Int) < (l.length : Int) := by omega
          have hsz : j < (txt l).size := by simpa using hjl
          have hat := txt_at l j hjl hsz
          have HN := hd (show (l.take (j + 1)).foldl moreN 4294967295 = moreN ((l.take j).foldl moreN 4294967295) l[j] by rw [List.take_succ_eq_append_getElem hjl, List.foldl_append]; rfl)
          have HML := hd (foldMore_lt (l.take j) 4294967295 (by omega))
          generalize (l.take j).foldl moreN 4294967295 = C at *
          go_wp2_with ((with_reducible refine (more_any _ _ _ HML.out).mono ?_); rintro x w' ⟨rfl, rfl⟩)
          go_round
          case rel => exact ⟨j + 1, by omega, by go_num, by rw [HN.out]⟩
          case measure => simp [intOf]; omega
        · obtain rfl : j = l.length := by omega
          rw [List.take_length]
          go_wp2_with fail
          go_round
          case rel => exact .inr ⟨rfl, rfl⟩
          case measure => simp [intOf]
    · have HML := hd (foldMore_lt l 4294967295 (by omega))
      generalize l.foldl moreN 4294967295 = C at *
      go_wp2_with fail
      have hn := u32_not C HML.out
      go_ret
      rw [HS.out]
      exact ⟨congrArg (fun z => Ending.returned (Value.int .u32 z)) hn, rfl⟩

theorem number_any (l : List UInt8) (w : World) (hl : l.length ≤ 4) :
    Calls Try.prog 106 #[.string (txt l)] w fun x w' => x = .returned (.int .u32 (numOf l : Nat)) ∧ w = w' := by
  go_enter Try.func106, Try.ntmps106
  go_wp2_with fail
  go_loop [3, 7] (fun v i => ∃ j : Nat, j ≤ l.length ∧ i = .int .i64 j ∧ v = .int .u32 (numOf (l.take j) : Nat)) (fun _ i => l.length - (intOf i).toNat)
  case atStart => exact ⟨0, Nat.zero_le _, rfl, rfl⟩
  case round =>
    obtain ⟨j, hj, rfl, rfl⟩ := hrel
    by_cases hjl : j < l.length
    · have hjl' : (j : Int) < (l.length : Int) := by omega
      have hsz : j < (txt l).size := by simpa using hjl
      have hat := txt_at l j hjl hsz
      have HN := hd (show numOf (l.take (j + 1)) = numOf (l.take j) * 256 + (l[j]).toNat by rw [List.take_succ_eq_append_getElem hjl, numOf_snoc]; rfl)
      have hlt3 : numOf (l.take j) < 256 ^ 3 := Nat.lt_of_lt_of_le (numOf_lt _) (Nat.pow_le_pow_right (by omega) (by rw [List.length_take]; omega))
      generalize numOf (l.take j) = V at *
      have hb8 : (l[j]).toNat < 256 := (l[j]).toNat_lt
      generalize l[j] = b at *
      have hV : V < 16777216 := by simpa using hlt3
      clear hlt3
      have hor := u32_shl_or V b.toNat (by omega) hb8
      go_wp2_with fail
      go_round
      case rel => exact ⟨j + 1, by omega, by go_num, by rw [HN.out]; exact congrArg _ (by omega)⟩
      case measure => simp [intOf]; omega
    · obtain rfl : j = l.length := by omega
      rw [List.take_length]
      go_wp2_with fail
      go_ret
      exact ⟨rfl, rfl⟩
end Go.Proofs.Ytjaoiaknglnomaa
