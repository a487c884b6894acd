/-
  accept.Digest and chatelaineref16.Digest, walked: the same bytes. Condition: the text is of a size that there is.
-/
import Derived.Test.YtfhmdeamhmjddaaRef01a
import Derived.Laws.Bits64
set_option linter.unusedVariables false
set_option linter.unusedSimpArgs false
set_option maxRecDepth 100000
namespace Go.Proofs.Ytfhmdeamhmjddaa
open Go.RowKit

/-- One byte into the digest. -/
def fnvStep (h : Nat) (b : UInt8) : Nat := (h ^^^ b.toNat) * 1099511628211 % 18446744073709551616
def foldFrom (f : Nat → UInt8 → Nat) (h0 : Nat) (l : List UInt8) : Nat := l.foldl f h0
theorem foldFrom_snoc (f : Nat → UInt8 → Nat) (h0 : Nat) (l : List UInt8) (b : UInt8) : foldFrom f h0 (l ++ [b]) = f (foldFrom f h0 l) b := by
  simp only [foldFrom, List.foldl_append, List.foldl_cons, List.foldl_nil]
theorem foldFrom_lt (f : Nat → UInt8 → Nat) (M : Nat) (hf : ∀ h b, f h b < M) (h0 : Nat) (hh : h0 < M) (l : List UInt8) : foldFrom f h0 l < M := by
  rcases List.eq_nil_or_concat l with rfl | ⟨l', b, rfl⟩
  · exact hh
  · rw [List.concat_eq_append, foldFrom_snoc]; exact hf _ _
theorem mod_lt_of (n m : Nat) (h : 0 < m) : n % m < m := Nat.mod_lt _ h
theorem fnvStep_lt (h : Nat) (b : UInt8) : fnvStep h b < 18446744073709551616 := by
  unfold fnvStep
  generalize (h ^^^ b.toNat) * 1099511628211 = n
  exact mod_lt_of n _ (by decide)
def fnv (l : List UInt8) : Nat := foldFrom fnvStep 14695981039346656037 l
theorem fnv_lt (l : List UInt8) : fnv l < 18446744073709551616 := foldFrom_lt fnvStep _ fnvStep_lt _ (by decide) l
theorem fnv_snoc (l : List UInt8) (b : UInt8) : fnv (l ++ [b]) = fnvStep (fnv l) b := foldFrom_snoc _ _ l b
theorem fnv_step (h : Nat) (b : UInt8) (hh : h < 18446744073709551616) : IntKind.u64.wrap (bits .xor .u64 (h : Int) (IntKind.u64.wrap (b.toNat : Int)) * 1099511628211) = ((fnvStep h b : Nat) : Int) := by
  have hb := b.toNat_lt
  have e1 : IntKind.u64.wrap (b.toNat : Int) = (b.toNat : Int) := by rw [IntKind.wrap_u64]; omega
  rw [e1, bits_xor_u64_nat h b.toNat hh (by omega), IntKind.wrap_u64]
  unfold fnvStep
  simp only [Int.natCast_emod, Int.natCast_mul]
  rfl
/-- The digest of a text. -/
def digestOf (s : ByteArray) : ByteArray := txt (wideOf (fnv s.data.toList) 8)

set_option maxHeartbeats 1000000 in
theorem digest_any (s : ByteArray) (w : World) (hs : s.size ≤ 9223372036854775000) :
    Calls Try.prog 10 #[.string s] w fun e w' => e = .returned (.string (digestOf s)) ∧ Upd [] w w' := by
  go_enter Try.func10, Try.ntmps10
  go_wp2_with fail
  go_loopw [3, 9] (fun h i wr => ∃ j : Nat, j ≤ s.size ∧ i = .int .i64 j ∧ h = .int .u64 ((fnv (s.data.toList.take j) : Nat) : Int) ∧ w = wr) (fun _ i _ => s.size - (intOf i).toNat)
  case atStart => exact ⟨0, Nat.zero_le _, rfl, rfl, rfl⟩
  case round =>
    obtain ⟨j, hj, rfl, rfl, rfl⟩ := hrel
    by_cases hjn : j < s.size
    · have hh := fnv_lt (s.data.toList.take j)
      have hb : s.data.toList[j]? = some s[j] := by rw [List.getElem?_eq_getElem (by rw [size_data']; exact hjn)]; simp [ByteArray.getElem_eq_getElem_data]
      have hn := (show fnv (s.data.toList.take (j + 1)) = fnvStep (fnv (s.data.toList.take j)) s[j] by rw [List.take_add_one, hb]; exact fnv_snoc _ _)
      have HN := hd hn
      clear hn
      generalize fnv (s.data.toList.take j) = h at *
      go_wp2_with fail
      refine ⟨⟨j + 1, by omega, by go_num, ?_, trivial⟩, by simp [intOf]; omega⟩
      rw [HN.out, fnv_step h s[j] hh]
    · obtain rfl : j = s.size := by omega
      have hh := fnv_lt s.data.toList
      rw [show s.data.toList.take s.size = s.data.toList from by rw [← size_data', List.take_length]]
      have HD := hd (show digestOf s = txt (wideOf (fnv s.data.toList) 8) from rfl)
      generalize fnv s.data.toList = h at *
      have HB0 := hd (Blk.new w #[.int .u8 0, .int .u8 0, .int .u8 0, .int .u8 0, .int .u8 0, .int .u8 0, .int .u8 0, .int .u8 0] 72)
      go_wp2_with fail
      have hnb : w.heap.size < (w.alloc (.cells #[.int .u8 0, .int .u8 0, .int .u8 0, .int .u8 0, .int .u8 0, .int .u8 0, .int .u8 0, .int .u8 0] 72)).heap.size := HB0.out.lt
      go_loopw [20] (fun i wx => ∃ (t : Nat) (c : Array Value), t ≤ 8 ∧ i = .int .i64 t ∧ Blk wx w.heap.size c 72 ∧ c.size = 8 ∧ (∀ q, q < t → c[q]? = some (.int .u8 ((UInt8.ofNat (h / 256 ^ (7 - q))).toNat : Int))) ∧ Upd [] w wx) (fun i _ => 8 - (intOf i).toNat)
      case atStart => exact ⟨0, _, by omega, rfl, HB0.out, rfl, fun q hq => by omega, (Upd.refl _ _).alloc _⟩
      case round =>
        clear HB0 hnb
        obtain ⟨t, c, ht, rfl, hb, hc8, hcq, hu⟩ := hrel
        have HCQ := hd hcq
        have HB := hd hb
        have HU := hd hu
        have hlt := hb.lt
        clear hcq hu
        by_cases ht8 : t < 8
        · have hcell : ∃ u, wr.cell? ⟨w.heap.size, t, none⟩ = some u := by
            rw [hb.cell]; exact ⟨_, Array.getElem?_eq_getElem (by omega)⟩
          obtain ⟨u, hcu⟩ := hcell
          have hfz := hb.frozen t
          have hs0 : (0 : Int) ≤ 8 * (7 - (t : Int)) := by omega
          have hs1 : 8 * (7 - (t : Int)) < 64 := by omega
          clear hb
          go_wp2_with fail
          refine ⟨⟨t + 1, _, by omega, by go_num, HB.out.set t _, by simpa using hc8, fun q hq => ?_, HU.out.setCell (.inr (Nat.le_refl _)) _⟩, by simp [intOf]; omega⟩
          by_cases hqt : q = t
          · subst hqt
            rw [Array.getElem?_setIfInBounds_self_of_lt (by omega)]
            congr 2
            rw [Int.pow_mul]
            simp
          · rw [Array.getElem?_setIfInBounds_ne (Ne.symm hqt)]
            exact HCQ.out q (by omega)
        · obtain rfl : t = 8 := by omega
          have HBY := hd (show BytesAt wr w.heap.size 0 (txt (wideOf h 8)) from fun q hq => by
            have hq8 : q < 8 := by simpa [wideOf_length] using hq
            rw [Nat.zero_add, Blk.cell HB.out q, HCQ.out q hq8]
            have : ∀ q, q < 8 → (wideOf h 8)[q]? = some (UInt8.ofNat (h / 256 ^ (7 - q))) := by
              intro q hq
              rcases (by omega : q = 0 ∨ q = 1 ∨ q = 2 ∨ q = 3 ∨ q = 4 ∨ q = 5 ∨ q = 6 ∨ q = 7) with rfl | rfl | rfl | rfl | rfl | rfl | rfl | rfl <;> rfl
            have h1 := this q hq8
            simp only [txt, List.getD, h1, Option.getD_some])
          go_wp2_with (refine wpList_conv_string rfl 59 9 5 (.tmp 32) rfl w.heap.size 0 8 8 (txt (wideOf h 8)) rfl Try.underlying59 Try.underlying5 Try.underlying9 (by simp [wideOf_length]) HBY.out ?_)
          go_ret
          rw [HD.out]
          exact ⟨rfl, HU.out⟩

set_option maxHeartbeats 1000000 in
theorem refdigest_any (s : ByteArray) (w : World) (hs : s.size ≤ 9223372036854775000) :
    Calls Try.prog 11 #[.string s] w fun e w' => e = .returned (.string (digestOf s)) ∧ Upd [] w w' := by
  go_enter Try.func11, Try.ntmps11
  go_wp2_with fail
  go_loopw [3, 4] (fun h i wr => ∃ j : Nat, j ≤ s.size ∧ i = .int .i64 j ∧ h = .int .u64 ((fnv (s.data.toList.take j) : Nat) : Int) ∧ w = wr) (fun _ i _ => s.size - (intOf i).toNat)
  case atStart => exact ⟨0, Nat.zero_le _, rfl, rfl, rfl⟩
  case round =>
    obtain ⟨j, hj, rfl, rfl, rfl⟩ := hrel
    by_cases hjn : j < s.size
    · have hh := fnv_lt (s.data.toList.take j)
      have hb : s.data.toList[j]? = some s[j] := by rw [List.getElem?_eq_getElem (by rw [size_data']; exact hjn)]; simp [ByteArray.getElem_eq_getElem_data]
      have hn := (show fnv (s.data.toList.take (j + 1)) = fnvStep (fnv (s.data.toList.take j)) s[j] by rw [List.take_add_one, hb]; exact fnv_snoc _ _)
      have HN := hd hn
      clear hn
      generalize fnv (s.data.toList.take j) = h at *
      go_wp2_with fail
      refine ⟨⟨j + 1, by omega, by go_num, ?_, trivial⟩, by simp [intOf]; omega⟩
      rw [HN.out, fnv_step h s[j] hh]
    · obtain rfl : j = s.size := by omega
      have hh := fnv_lt s.data.toList
      rw [show s.data.toList.take s.size = s.data.toList from by rw [← size_data', List.take_length]]
      have HD := hd (show digestOf s = txt (wideOf (fnv s.data.toList) 8) from rfl)
      generalize fnv s.data.toList = h at *
      go_wp2_with fail
      go_loopw [3, 5, 6] (fun y o i wr => ∃ t : Nat, t ≤ 8 ∧ i = .int .i64 t ∧ y = .int .u64 ((h / 256 ^ t : Nat) : Int) ∧ o = .string (txt (wideOf h t)) ∧ Upd [] w wr) (fun _ _ i _ => 8 - (intOf i).toNat)
      case atStart => exact ⟨0, by omega, rfl, by simp, rfl, Upd.refl _ _⟩
      case round =>
        obtain ⟨t, ht, rfl, rfl, rfl, hu⟩ := hrel
        have HU := hd hu
        clear hu
        by_cases ht8 : t < 8
        · have hy : h / 256 ^ t < 18446744073709551616 := Nat.lt_of_le_of_lt (Nat.div_le_self _ _) hh
          have hdiv := hd (show (((h / 256 ^ t : Nat) : Int) / 256) = ((h / 256 ^ (t + 1) : Nat) : Int) by rw [Nat.pow_succ, ← Nat.div_div_eq_div_mul]; simp)
          generalize hye : h / 256 ^ t = y at *
          have hs : ∀ W : World, (Op.stringOp .add (txt [UInt8.ofNat y]) (txt (wideOf h t))).run Try.prog W = .ok (.string (txt (UInt8.ofNat y :: wideOf h t))) W := fun W => by
            rw [run_string_add_sum _ _ _ (by simp [wideOf_length]; omega), txt_append]; rfl
          go_wp2_with (refine wpList_conv_string rfl 59 9 5 (.tmp 28) rfl wr.heap.size 0 1 1 (txt [UInt8.ofNat y]) rfl Try.underlying59 Try.underlying5 Try.underlying9 (by simp) (fun i hi => by
            obtain rfl : i = 0 := by simpa using hi
            simp [txt]) ?_)
          go_roundw
          case rel => exact ⟨t + 1, by omega, by go_num, by rw [hdiv.out], by rw [← hye]; rfl, HU.out.alloc _⟩
          case measure => simp [intOf]; omega
        · obtain rfl : t = 8 := by omega
          go_wp2_with fail
          go_ret
          rw [HD.out]
          exact ⟨rfl, HU.out⟩
end Go.Proofs.Ytfhmdeamhmjddaa
