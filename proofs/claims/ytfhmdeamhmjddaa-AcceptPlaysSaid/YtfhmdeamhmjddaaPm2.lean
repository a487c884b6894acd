/-
  chatelaineref01, walked: wide, U, N, S. Condition: the sizes that each theorem states.
-/
import Derived.Test.YtfhmdeamhmjddaaPm1
import Derived.Laws.Bits64
import Derived.Test.YtfhmdeamhmjddaaPm0
set_option linter.unusedVariables false
set_option linter.unusedSimpArgs false
set_option maxRecDepth 100000
namespace Go.Proofs.Ytfhmdeamhmjddaa
open Go.RowKit

/-- Bytes as a text. -/
def txt (l : List UInt8) : ByteArray := ⟨l.toArray⟩
@[simp] theorem txt_size (l : List UInt8) : (txt l).size = l.length := by simp [txt, ByteArray.size]
theorem txt_append (a b : List UInt8) : txt a ++ txt b = txt (a ++ b) := by
  apply ByteArray.ext; simp [txt, ByteArray.data_append]
theorem txt_data (s : ByteArray) : txt s.data.toList = s := by apply ByteArray.ext; simp [txt]

set_option maxHeartbeats 1000000 in
theorem refwide_any (x n : Nat) (w : World) (hx : x < 18446744073709551616) (hn : n ≤ 8) :
    Calls Try.prog 86 #[.int .u64 x, .int .i64 n] w fun e w' => e = .returned (.string (txt (wideOf x n))) ∧ Upd [] w w' := by
  go_enter Try.func86, Try.ntmps86
  go_wp2_with fail
  go_loopw [0, 5, 6] (fun y s i wr => ∃ j : Nat, j ≤ n ∧ i = .int .i64 j ∧ y = .int .u64 ((x / 256 ^ j : Nat) : Int) ∧ s = .string (txt (wideOf x j)) ∧ Upd [] w wr) (fun _ _ i _ => n - (intOf i).toNat)
  case atStart => exact ⟨0, Nat.zero_le _, rfl, by simp, rfl, Upd.refl _ _⟩
  case round =>
    obtain ⟨j, hj, rfl, rfl, rfl, hu⟩ := hrel
    have HU := hd hu
    clear hu
    by_cases hjn : j < n
    · have hy : x / 256 ^ j < 18446744073709551616 := Nat.lt_of_le_of_lt (Nat.div_le_self _ _) hx
      have hdiv := hd (show (((x / 256 ^ j : Nat) : Int) / 256) = ((x / 256 ^ (j + 1) : Nat) : Int) by rw [Nat.pow_succ, ← Nat.div_div_eq_div_mul]; simp)
      generalize hye : x / 256 ^ j = y at *
      have hs : ∀ W : World, (Op.stringOp .add (txt [UInt8.ofNat y]) (txt (wideOf x j))).run Try.prog W = .ok (.string (txt (UInt8.ofNat y :: wideOf x j))) W := fun W => by
        rw [run_string_add_sum _ _ _ (by simp [wideOf_length]; omega), txt_append]; rfl
      go_wp2_with (refine wpList_conv_string rfl 59 9 5 (.tmp 15) rfl wr.heap.size 0 1 1 (txt [UInt8.ofNat y]) rfl Try.underlying59 Try.underlying5 Try.underlying9 (by simp) (fun i hi => by
        obtain rfl : i = 0 := by simpa using hi
        simp [txt]) ?_)
      refine ⟨⟨j + 1, by omega, by go_num, by rw [hdiv.out], by rw [← hye]; rfl, HU.out.alloc _⟩, by simp [intOf]; omega⟩
    · go_wp2_with fail
      go_ret
      obtain rfl : j = n := by omega
      exact ⟨rfl, HU.out⟩

theorem refU_any (x : Nat) (w : World) (hx : x < 18446744073709551616) :
    Calls Try.prog 79 #[.int .u64 x] w fun e w' => e = .returned (.string (txt (uBytes x))) ∧ Upd [] w w' := by
  obtain ⟨z, hz⟩ : ∃ z : Int, z = x := ⟨_, rfl⟩
  have H1 := refwide_any x
  rw [← hz] at H1 ⊢
  have hH := hd (show (z < 252 ∧ headOf x = (UInt8.ofNat x, 0)) ∨ (¬ z < 252 ∧ z < 65536 ∧ headOf x = (252, 2)) ∨ (¬ z < 252 ∧ ¬ z < 65536 ∧ z < 4294967296 ∧ headOf x = (253, 4)) ∨ (¬ z < 252 ∧ ¬ z < 65536 ∧ ¬ z < 4294967296 ∧ headOf x = (254, 8)) by
    unfold headOf
    split
    · exact .inl ⟨by omega, rfl⟩
    split
    · exact .inr (.inl ⟨by omega, by omega, rfl⟩)
    split
    · exact .inr (.inr (.inl ⟨by omega, by omega, by omega, rfl⟩))
    · exact .inr (.inr (.inr ⟨by omega, by omega, by omega, rfl⟩)))
  have HX := hd hx
  have H1 := hd H1
  have hs : ∀ (b : UInt8) (n : Nat) (W : World), n ≤ 8 → (Op.stringOp .add (txt [b]) (txt (wideOf x n))).run Try.prog W = .ok (.string (txt (b :: wideOf x n))) W := fun b n W hn => by
    rw [run_string_add_sum _ _ _ (by simp [wideOf_length]; omega), txt_append]; rfl
  have hs2 := fun W => hs 252 2 W (by omega)
  have hs4 := fun W => hs 253 4 W (by omega)
  have hs8 := fun W => hs 254 8 W (by omega)
  clear hz hx hs
  rcases hH.out with ⟨h, e⟩ | ⟨h, h', e⟩ | ⟨h, h', h'', e⟩ | ⟨h, h', h'', e⟩
  · have E := hd e
    clear e hH
    go_enter Try.func79, Try.ntmps79
    go_wp2_with fail
    refine (H1.out 1 _ HX.out (by omega)).mono ?_
    rintro e w1 ⟨rfl, hu⟩
    go_wp2_with fail
    go_ret
    refine ⟨?_, hu⟩
    unfold uBytes
    rw [E.out]
    simp [wideOf]
  · have E := hd e
    clear e hH
    go_enter Try.func79, Try.ntmps79
    go_wp2_with fail
    refine (H1.out 2 _ HX.out (by omega)).mono ?_
    rintro e w1 ⟨rfl, hu⟩
    go_wp2_with fail
    go_ret
    refine ⟨?_, hu⟩
    unfold uBytes
    rw [E.out, show (⟨#[252]⟩ : ByteArray) = txt [252] from rfl, txt_append]
    rfl
  · have E := hd e
    clear e hH
    go_enter Try.func79, Try.ntmps79
    go_wp2_with fail
    refine (H1.out 4 _ HX.out (by omega)).mono ?_
    rintro e w1 ⟨rfl, hu⟩
    go_wp2_with fail
    go_ret
    refine ⟨?_, hu⟩
    unfold uBytes
    rw [E.out, show (⟨#[253]⟩ : ByteArray) = txt [253] from rfl, txt_append]
    rfl
  · have E := hd e
    clear e hH
    go_enter Try.func79, Try.ntmps79
    go_wp2_with fail
    refine (H1.out 8 _ HX.out (by omega)).mono ?_
    rintro e w1 ⟨rfl, hu⟩
    go_wp2_with fail
    go_ret
    refine ⟨?_, hu⟩
    unfold uBytes
    rw [E.out, show (⟨#[254]⟩ : ByteArray) = txt [254] from rfl, txt_append]
    rfl

theorem refN_any (x : Int) (w : World) (hx : x ≤ 9223372036854775807) :
    Calls Try.prog 60 #[.int .i64 x] w fun e w' => e = .returned (.string (txt (nBytes x))) ∧ Upd [] w w' := by
  have HU := hd (refU_any x.toNat w (by omega))
  by_cases h0 : x < 0
  · rw [show ((x.toNat : Nat) : Int) = 0 by omega] at HU
    go_enter Try.func60, Try.ntmps60
    go_wp2_with fail
    refine HU.out.mono ?_
    rintro e w1 ⟨rfl, hu⟩
    go_wp2_with fail
    go_ret
    exact ⟨rfl, hu⟩
  · rw [show ((x.toNat : Nat) : Int) = x by omega] at HU
    go_enter Try.func60, Try.ntmps60
    go_wp2_with fail
    refine HU.out.mono ?_
    rintro e w1 ⟨rfl, hu⟩
    go_wp2_with fail
    go_ret
    exact ⟨rfl, hu⟩

theorem refS_any (s : ByteArray) (w : World) (hs : s.size ≤ 9223372036854775000) :
    Calls Try.prog 61 #[.string s] w fun e w' => e = .returned (.string (txt (sBytes s))) ∧ Upd [] w w' := by
  have HU := hd (refN_any s.size w (by omega))
  have hn := nBytes_le (s.size : Int)
  have hsz : (txt (nBytes (s.size : Int))).size ≤ 9 := by simpa using hn
  have HE := hd (show txt (nBytes (s.size : Int)) ++ s = txt (sBytes s) by
    unfold sBytes
    rw [← txt_append, txt_data])
  generalize txt (nBytes (s.size : Int)) = T at *
  clear hn
  go_enter Try.func61, Try.ntmps61
  go_wp2_with fail
  refine HU.out.mono ?_
  rintro e w1 ⟨rfl, hu⟩
  go_wp2_with fail
  go_ret
  rw [HE.out]
  exact ⟨rfl, hu⟩
end Go.Proofs.Ytfhmdeamhmjddaa

/-
  accept.Digest and chatelaineref16.Digest, walked: the same bytes. Condition: the text is of a size that there is.
-/
set_option linter.unusedVariables false
set_option linter.unusedSimpArgs false
set_option maxRecDepth 100000
namespace Go.Proofs.Ytfhmdeamhmjddaa
open Go.RowKit

/-- One byte into the digest. -/
def fnvStep (h : Nat) (b : UInt8) : Nat := (h ^^^ b.toNat) * 1099511628211 % 18446744073709551616
def foldFrom (f : Nat → UInt8 → Nat) (h0 : Nat) (l : List UInt8) : Nat := l.foldl f h0
theorem foldFrom_snoc (f : Nat → UInt8 → Nat) (h0 : Nat) (l : List UInt8) (b : UInt8) : foldFrom f h0 (l ++ [b]) = f (foldFrom f h0 l) b := by
  simp only [foldFrom, List.foldl_append, List.foldl_cons, List.foldl_nil]
theorem foldFrom_lt (f : Nat → UInt8 → Nat) (M : Nat) (hf : ∀ h b, f h b < M) (h0 : Nat) (hh : h0 < M) (l : List UInt8) : foldFrom f h0 l < M := by
  rcases List.eq_nil_or_concat l with rfl | ⟨l', b, rfl⟩
  · exact hh
  · rw [List.concat_eq_append, foldFrom_snoc]; exact hf _ _
theorem mod_lt_of (n m : Nat) (h : 0 < m) : n % m < m := Nat.mod_lt _ h
theorem fnvStep_lt (h : Nat) (b : UInt8) : fnvStep h b < 18446744073709551616 := by
  unfold fnvStep
  generalize (h ^^^ b.toNat) * 1099511628211 = n
  exact mod_lt_of n _ (by decide)
def fnv (l : List UInt8) : Nat := foldFrom fnvStep 14695981039346656037 l
theorem fnv_lt (l : List UInt8) : fnv l < 18446744073709551616 := foldFrom_lt fnvStep _ fnvStep_lt _ (by decide) l
theorem fnv_snoc (l : List UInt8) (b : UInt8) : fnv (l ++ [b]) = fnvStep (fnv l) b := foldFrom_snoc _ _ l b
theorem fnv_step (h : Nat) (b : UInt8) (hh : h < 18446744073709551616) : IntKind.u64.wrap (bits .xor .u64 (h : Int) (IntKind.u64.wrap (b.toNat : Int)) * 1099511628211) = ((fnvStep h b : Nat) : Int) := by
  have hb := b.toNat_lt
  have e1 : IntKind.u64.wrap (b.toNat : Int) = (b.toNat : Int) := by rw [IntKind.wrap_u64]; omega
  rw [e1, bits_xor_u64_nat h b.toNat hh (by omega), IntKind.wrap_u64]
  unfold fnvStep
  simp only [Int.natCast_emod, Int.natCast_mul]
  rfl
/-- The digest of a text. -/
def digestOf (s : ByteArray) : ByteArray := txt (wideOf (fnv s.data.toList) 8)

set_option maxHeartbeats 1000000 in
theorem digest_any (s : ByteArray) (w : World) (hs : s.size ≤ 9223372036854775000) :
    Calls Try.prog 10 #[.string s] w fun e w' => e = .returned (.string (digestOf s)) ∧ Upd [] w w' := by
  go_enter Try.func10, Try.ntmps10
  go_wp2_with fail
  go_loopw [3, 9] (fun h i wr => ∃ j : Nat, j ≤ s.size ∧ i = .int .i64 j ∧ h = .int .u64 ((fnv (s.data.toList.take j) : Nat) : Int) ∧ w = wr) (fun _ i _ => s.size - (intOf i).toNat)
  case atStart => exact ⟨0, Nat.zero_le _, rfl, rfl, rfl⟩
  case round =>
    obtain ⟨j, hj, rfl, rfl, rfl⟩ := hrel
    by_cases hjn : j < s.size
    · have hh := fnv_lt (s.data.toList.take j)
      have hb : s.data.toList[j]? = some s[j] := by rw [List.getElem?_eq_getElem (by rw [size_data']; exact hjn)]; simp [ByteArray.getElem_eq_getElem_data]
      have hn := (show fnv (s.data.toList.take (j + 1)) = fnvStep (fnv (s.data.toList.take j)) s[j] by rw [List.take_add_one, hb]; exact fnv_snoc _ _)
      have HN := hd hn
      clear hn
      generalize fnv (s.data.toList.take j) = h at *
      go_wp2_with fail
      refine ⟨⟨j + 1, by omega, by go_num, ?_, trivial⟩, by simp [intOf]; omega⟩
      rw [HN.out, fnv_step h s[j] hh]
    · obtain rfl : j = s.size := by omega
      have hh := fnv_lt s.data.toList
      rw [show s.data.toList.take s.size = s.data.toList from by rw [← size_data', List.take_length]]
      have HD := hd (show digestOf s = txt (wideOf (fnv s.data.toList) 8) from rfl)
      generalize fnv s.data.toList = h at *
      have HB0 := hd (Blk.new w #[.int .u8 0, .int .u8 0, .int .u8 0, .int .u8 0, .int .u8 0, .int .u8 0, .int .u8 0, .int .u8 0] 72)
      go_wp2_with fail
      have hnb : w.heap.size < (w.alloc (.cells #[.int .u8 0, .int .u8 0, .int .u8 0, .int .u8 0, .int .u8 0, .int .u8 0, .int .u8 0, .int .u8 0] 72)).heap.size := HB0.out.lt
      go_loopw [20] (fun i wx => ∃ (t : Nat) (c : Array Value), t ≤ 8 ∧ i = .int .i64 t ∧ Blk wx w.heap.size c 72 ∧ c.size = 8 ∧ (∀ q, q < t → c[q]? = some (.int .u8 ((UInt8.ofNat (h / 256 ^ (7 - q))).toNat : Int))) ∧ Upd [] w wx) (fun i _ => 8 - (intOf i).toNat)
      case atStart => exact ⟨0, _, by omega, rfl, HB0.out, rfl, fun q hq => by omega, (Upd.refl _ _).alloc _⟩
      case round =>
        clear HB0 hnb
        obtain ⟨t, c, ht, rfl, hb, hc8, hcq, hu⟩ := hrel
        have HCQ := hd hcq
        have HB := hd hb
        have HU := hd hu
        have hlt := hb.lt
        clear hcq hu
        by_cases ht8 : t < 8
        · have hcell : ∃ u, wr.cell? ⟨w.heap.size, t, none⟩ = some u := by
            rw [hb.cell]; exact ⟨_, Array.getElem?_eq_getElem (by omega)⟩
          obtain ⟨u, hcu⟩ := hcell
          have hfz := hb.frozen t
          have hs0 : (0 : Int) ≤ 8 * (7 - (t : Int)) := by omega
          have hs1 : 8 * (7 - (t : Int)) < 64 := by omega
          clear hb
          go_wp2_with fail
          refine ⟨⟨t + 1, _, by omega, by go_num, HB.out.set t _, by simpa using hc8, fun q hq => ?_, HU.out.setCell (.inr (Nat.le_refl _)) _⟩, by simp [intOf]; omega⟩
          by_cases hqt : q = t
          · subst hqt
            rw [Array.getElem?_setIfInBounds_self_of_lt (by omega)]
            congr 2
            rw [Int.pow_mul]
            simp
          · rw [Array.getElem?_setIfInBounds_ne (Ne.symm hqt)]
            exact HCQ.out q (by omega)
        · obtain rfl : t = 8 := by omega
          have HBY := hd (show BytesAt wr w.heap.size 0 (txt (wideOf h 8)) from fun q hq => by
            have hq8 : q < 8 := by simpa [wideOf_length] using hq
            rw [Nat.zero_add, Blk.cell HB.out q, HCQ.out q hq8]
            have : ∀ q, q < 8 → (wideOf h 8)[q]? = some (UInt8.ofNat (h / 256 ^ (7 - q))) := by
              intro q hq
              rcases (by omega : q = 0 ∨ q = 1 ∨ q = 2 ∨ q = 3 ∨ q = 4 ∨ q = 5 ∨ q = 6 ∨ q = 7) with rfl | rfl | rfl | rfl | rfl | rfl | rfl | rfl <;> rfl
            have h1 := this q hq8
            simp only [txt, List.getD, h1, Option.getD_some])
          go_wp2_with (refine wpList_conv_string rfl 59 9 5 (.tmp 32) rfl w.heap.size 0 8 8 (txt (wideOf h 8)) rfl Try.underlying59 Try.underlying5 Try.underlying9 (by simp [wideOf_length]) HBY.out ?_)
          go_ret
          rw [HD.out]
          exact ⟨rfl, HU.out⟩

set_option maxHeartbeats 1000000 in
theorem refdigest_any (s : ByteArray) (w : World) (hs : s.size ≤ 9223372036854775000) :
    Calls Try.prog 11 #[.string s] w fun e w' => e = .returned (.string (digestOf s)) ∧ Upd [] w w' := by
  go_enter Try.func11, Try.ntmps11
  go_wp2_with fail
  go_loopw [3, 4] (fun h i wr => ∃ j : Nat, j ≤ s.size ∧ i = .int .i64 j ∧ h = .int .u64 ((fnv (s.data.toList.take j) : Nat) : Int) ∧ w = wr) (fun _ i _ => s.size - (intOf i).toNat)
  case atStart => exact ⟨0, Nat.zero_le _, rfl, rfl, rfl⟩
  case round =>
    obtain ⟨j, hj, rfl, rfl, rfl⟩ := hrel
    by_cases hjn : j < s.size
    · have hh := fnv_lt (s.data.toList.take j)
      have hb : s.data.toList[j]? = some s[j] := by rw [List.getElem?_eq_getElem (by rw [size_data']; exact hjn)]; simp [ByteArray.getElem_eq_getElem_data]
      have hn := (show fnv (s.data.toList.take (j + 1)) = fnvStep (fnv (s.data.toList.take j)) s[j] by rw [List.take_add_one, hb]; exact fnv_snoc _ _)
      have HN := hd hn
      clear hn
      generalize fnv (s.data.toList.take j) = h at *
      go_wp2_with fail
      refine ⟨⟨j + 1, by omega, by go_num, ?_, trivial⟩, by simp [intOf]; omega⟩
      rw [HN.out, fnv_step h s[j] hh]
    · obtain rfl : j = s.size := by omega
      have hh := fnv_lt s.data.toList
      rw [show s.data.toList.take s.size = s.data.toList from by rw [← size_data', List.take_length]]
      have HD := hd (show digestOf s = txt (wideOf (fnv s.data.toList) 8) from rfl)
      generalize fnv s.data.toList = h at *
      go_wp2_with fail
      go_loopw [3, 5, 6] (fun y o i wr => ∃ t : Nat, t ≤ 8 ∧ i = .int .i64 t ∧ y = .int .u64 ((h / 256 ^ t : Nat) : Int) ∧ o = .string (txt (wideOf h t)) ∧ Upd [] w wr) (fun _ _ i _ => 8 - (intOf i).toNat)
      case atStart => exact ⟨0, by omega, rfl, by simp, rfl, Upd.refl _ _⟩
      case round =>
        obtain ⟨t, ht, rfl, rfl, rfl, hu⟩ := hrel
        have HU := hd hu
        clear hu
        by_cases ht8 : t < 8
        · have hy : h / 256 ^ t < 18446744073709551616 := Nat.lt_of_le_of_lt (Nat.div_le_self _ _) hh
          have hdiv := hd (show (((h / 256 ^ t : Nat) : Int) / 256) = ((h / 256 ^ (t + 1) : Nat) : Int) by rw [Nat.pow_succ, ← Nat.div_div_eq_div_mul]; simp)
          generalize hye : h / 256 ^ t = y at *
          have hs : ∀ W : World, (Op.stringOp .add (txt [UInt8.ofNat y]) (txt (wideOf h t))).run Try.prog W = .ok (.string (txt (UInt8.ofNat y :: wideOf h t))) W := fun W => by
            rw [run_string_add_sum _ _ _ (by simp [wideOf_length]; omega), txt_append]; rfl
          go_wp2_with (refine wpList_conv_string rfl 59 9 5 (.tmp 28) rfl wr.heap.size 0 1 1 (txt [UInt8.ofNat y]) rfl Try.underlying59 Try.underlying5 Try.underlying9 (by simp) (fun i hi => by
            obtain rfl : i = 0 := by simpa using hi
            simp [txt]) ?_)
          go_roundw
          case rel => exact ⟨t + 1, by omega, by go_num, by rw [hdiv.out], by rw [← hye]; rfl, HU.out.alloc _⟩
          case measure => simp [intOf]; omega
        · obtain rfl : t = 8 := by omega
          go_wp2_with fail
          go_ret
          rw [HD.out]
          exact ⟨rfl, HU.out⟩
end Go.Proofs.Ytfhmdeamhmjddaa

/-
  Package accept: New, the getters, low, others, refuse, promise, kept, walked. Conditions: those that each theorem states.
-/
set_option linter.unusedVariables false
set_option linter.unusedSimpArgs false
set_option maxRecDepth 100000
namespace Go.Proofs.Ytfhmdeamhmjddaa
open Go.RowKit

/-- A message of the program. -/
structure MsgS where
  kind : Int := 0
  frm : Int := 0
  to : Int := 0
  sub : Int := 0
  bal : BalS := ⟨0, 0⟩
  slot : Int := 0
  time : Int := 0
  okb : Bool := false
  text : ByteArray := ⟨#[]⟩
def msgC (m : MsgS) (l : Value) : Array Value := #[.int .i64 m.kind, .int .i64 m.frm, .int .i64 m.to, .int .i64 m.sub, .int .u64 m.bal.c, .int .i64 m.bal.n, .int .i64 m.slot, .int .i64 m.time, .bool m.okb, .string m.text, l]
def MsgS.val (m : MsgS) (l : Value) : Value := .agg (msgC m l)

theorem two_new (w : World) (A R : Array Value) (T : TypeId) : ∃ W, (w.alloc (.cells A T)).alloc (.cells R T) = W ∧ Upd [] w W ∧ Blk W w.heap.size A T ∧ Blk W (w.heap.size + 1) R T ∧ W.heap.size = w.heap.size + 2 :=
  ⟨_, rfl, ((Upd.refl _ _).alloc _).alloc _, (Blk.new _ _ _).alloc _, Blk.new' _ _ _ (by simp), by simp⟩

def acc0 (wit : Bool) : AccS := ⟨wit, ⟨0, 0⟩, 0, [], 0, 0⟩

theorem AccAt.upd {B b : Nat} {l : Value} {d : AccS} {L : List Nat} {w w' : World} (h : AccAt B w b l d) (hu : Upd L w w') (hb : b ∉ L) (hl : ∀ g, l.ownBlock = some g → g ∉ L) : AccAt B w' b l d :=
  ⟨h.blk.upd hu hb, own_upd h.own hu hl⟩

theorem AccAt.ne {B b : Nat} {l : Value} {d : AccS} {w : World} (h : AccAt B w b l d) : ∀ g, l.ownBlock = some g → g ≠ b := by
  intro g hg
  rcases h.own.2 with he | ⟨g', cap, cur, he, hb, hg', _⟩
  · rw [he.1] at hg; cases hg
  · rw [he] at hg
    simp only [Value.ownBlock, Option.some.injEq] at hg
    subst hg
    rintro rfl
    have := h.blk
    rw [Blk, hg'] at this
    simp at this
theorem AccAt.low {B b : Nat} {l : Value} {d : AccS} {w : World} (h : AccAt B w b l d) : ∀ g, l.ownBlock = some g → B ≤ g ∧ g < w.heap.size := by
  intro g hg
  rcases h.own.2 with he | ⟨g', cap, cur, he, hb, hg', _⟩
  · rw [he.1] at hg; cases hg
  · rw [he] at hg
    simp only [Value.ownBlock, Option.some.injEq] at hg
    subst hg
    exact ⟨hb, Blk.lt hg'⟩

theorem anew_any (wit : Bool) (w : World) : Calls Try.prog 12 #[.bool wit] w fun e w' =>
    e = .returned (.pointer (some ⟨w.heap.size, 0, none⟩)) ∧ Upd [] w w' ∧ AccAt w.heap.size w' w.heap.size (.slice none 0 0) (acc0 wit) ∧ w.heap.size < w'.heap.size := by
  go_enter Try.func12, Try.ntmps12
  go_wp2
  go_ret
  exact ⟨rfl, (Upd.refl _ _).alloc _, ⟨Blk.new _ _ _, World.ownsRow_nil _ _ _ _⟩, by simp⟩

theorem promised_any (B b : Nat) (l : Value) (d : AccS) (w : World) (h : AccAt B w b l d) :
    Calls Try.prog 14 #[.pointer (some ⟨b, 0, none⟩)] w fun e w' => e = .returned d.bal.val ∧ Upd [] w w' := by
  have hc := h.blk.cell
  have hlt := h.blk.lt
  simp only [AccS.cells] at hc
  clear h
  unfold BalS.val
  go_enter Try.func14, Try.ntmps14
  go_wp2
  refine bodyPost_ret (v := .agg #[.int .u64 d.bal.c, .int .i64 d.bal.n]) (by simp [results, Try.results14, go_sem]) rfl ?_
  exact ⟨rfl, (Upd.refl _ _).alloc _⟩
theorem base_any (B b : Nat) (l : Value) (d : AccS) (w : World) (h : AccAt B w b l d) :
    Calls Try.prog 22 #[.pointer (some ⟨b, 0, none⟩)] w fun e w' => e = .returned (.int .i64 d.base) ∧ w = w' := by
  have hc := h.blk.cell
  have hlt := h.blk.lt
  simp only [AccS.cells] at hc
  clear h
  go_enter Try.func22, Try.ntmps22
  go_wp2
  go_ret
  exact ⟨rfl, rfl⟩
theorem witness_any (B b : Nat) (l : Value) (d : AccS) (w : World) (h : AccAt B w b l d) :
    Calls Try.prog 34 #[.pointer (some ⟨b, 0, none⟩)] w fun e w' => e = .returned (.bool d.wit) ∧ w = w' := by
  have hc := h.blk.cell
  have hlt := h.blk.lt
  simp only [AccS.cells] at hc
  clear h
  go_enter Try.func34, Try.ntmps34
  go_wp2
  go_ret
  exact ⟨rfl, rfl⟩
theorem holder_any (B b : Nat) (l : Value) (d : AccS) (w : World) (h : AccAt B w b l d) (h0 : 0 ≤ d.node) (h1 : d.node < 4611686018427387904) :
    Calls Try.prog 15 #[.pointer (some ⟨b, 0, none⟩)] w fun e w' => e = .returned (.tuple #[.int .i64 (d.node - 1), .int .i64 d.til]) ∧ Upd [] w w' := by
  have hc := h.blk.cell
  have hlt := h.blk.lt
  simp only [AccS.cells] at hc
  clear h
  go_enter Try.func15, Try.ntmps15
  go_wp2
  try go_region
  try go_wp2
  go_ret2
  exact ⟨rfl, (Upd.refl _ _).drew⟩

def AccS.low (d : AccS) (b : BalS) : Bool := decide (b.cmp d.bal < 0)
theorem low_any (B b : Nat) (l : Value) (d : AccS) (x : BalS) (w : World) (h : AccAt B w b l d) :
    Calls Try.prog 38 #[.pointer (some ⟨b, 0, none⟩), x.val] w fun e w' => e = .returned (.bool (d.low x)) ∧ Upd [] w w' := by
  have HL := hd (show d.low x = decide (x.cmp d.bal < 0) from rfl)
  have HX := hd (show x.val = .agg #[.int .u64 x.c, .int .i64 x.n] from rfl)
  unfold BalS.val
  go_enter Try.func38, Try.ntmps38
  go_wp2
  have h0 : Blk (w.alloc (.cells #[.int .u64 x.c, .int .i64 x.n] 35)) w.heap.size #[.int .u64 x.c, .int .i64 x.n] 35 := Blk.new _ _ _
  have h1 : Blk (w.alloc (.cells #[.int .u64 x.c, .int .i64 x.n] 35)) b (d.cells l) 76 := h.blk.alloc _
  have hu := (Upd.refl [] w).alloc (.cells #[.int .u64 x.c, .int .i64 x.n] 35)
  generalize w.alloc (.cells #[.int .u64 x.c, .int .i64 x.n] 35) = W at *
  have hc0 : ∀ (y : Later [] W) o, y.world.cell? ⟨w.heap.size, o, none⟩ = #[Value.int .u64 x.c, .int .i64 x.n][o]? := fun y => (y.blk h0 (by simp)).cell
  have hc1 : ∀ (y : Later [] W) o, y.world.cell? ⟨b, o, none⟩ = (d.cells l)[o]? := fun y => (y.blk h1 (by simp)).cell
  simp only [AccS.cells] at hc1
  have HU := hd hu
  clear hu h0 h1
  refine wp_region_later [] (by kernel_rfl) (by kernel_rfl) ?_
  repeat (go_big_quiet_step ((go_at_call 19; refine later_call (bcompare_any x d.bal _))))
  refine wpQuiet_nil ?_
  intro W1 hu1
  go_wp2
  go_ret
  exact ⟨ret_b (by rw [HL.out]), HU.out.trans hu1⟩

def AccS.others (d : AccS) (n now : Int) : Bool := decide (d.node ≠ 0) && decide (d.node ≠ n + 1) && decide (0 < d.til - now)
theorem others_any (B b : Nat) (l : Value) (d : AccS) (n now : Int) (w : World) (h : AccAt B w b l d) (hn0 : -4611686018427387904 < n) (hn1 : n < 4611686018427387904) (hw0 : -4611686018427387904 < now) (hw1 : now < 4611686018427387904)
    (ht0 : -4611686018427387904 < d.til) (ht1 : d.til < 4611686018427387904) :
    Calls Try.prog 36 #[.pointer (some ⟨b, 0, none⟩), .int .i64 n, .int .i64 now] w fun e w' => e = .returned (.tuple #[.int .i64 (d.til - now), .bool (d.others n now)]) ∧ w = w' := by
  have hc := h.blk.cell
  have hlt := h.blk.lt
  simp only [AccS.cells] at hc
  clear h
  have HO := hd (show d.others n now = (decide (d.node ≠ 0) && decide (d.node ≠ n + 1) && decide (0 < d.til - now)) from rfl)
  go_enter Try.func36, Try.ntmps36
  have k0 : decide (d.node ≠ 0) = (d.node != 0) := by by_cases e : d.node = 0 <;> simp [e]
  by_cases h0 : d.node = 0
  · go_wp2
    go_ret2
    exact ⟨by rw [HO.out]; simp [h0], rfl⟩
  · by_cases h1 : d.node = n + 1
    · go_wp2
      go_ret2
      exact ⟨by rw [HO.out]; simp [h0, h1], rfl⟩
    · have e0 : (d.node != 0) = true := by simpa using h0
      have e1 : (d.node != n + 1) = true := by simpa using h1
      have HE := hd (show d.others n now = decide (0 < d.til - now) by rw [HO.out]; simp [h0, h1])
      clear k0 HO
      go_wp2
      go_ret2
      exact ⟨by rw [HE.out]; simp [h0, h1], rfl⟩

theorem refuse_any (B b : Nat) (l : Value) (d : AccS) (left : Int) (w : World) (h : AccAt B w b l d) :
    Calls Try.prog 37 #[.pointer (some ⟨b, 0, none⟩), .int .i64 left] w fun e w' => e = .returned (MsgS.val { kind := 5, bal := d.bal, time := left } (.slice none 0 0)) ∧ Upd [] w w' := by
  have hc := h.blk.cell
  have hlt := h.blk.lt
  simp only [AccS.cells] at hc
  clear h
  unfold MsgS.val msgC
  go_enter Try.func37, Try.ntmps37
  go_wp2
  refine bodyPost_ret (v := _) (by simp [results, Try.results37, go_sem]; rfl) rfl ?_
  exact ⟨rfl, (Upd.refl _ _).alloc _⟩

theorem kept_any (B b : Nat) (l : Value) (d : AccS) (s : ByteArray) (w : World) (h : AccAt B w b l d) (hs : s.size ≤ 9223372036854775000) :
    Calls Try.prog 42 #[.pointer (some ⟨b, 0, none⟩), .string s] w fun e w' => e = .returned (.string (if d.wit = true then digestOf s else s)) ∧ Upd [] w w' := by
  have hc := h.blk.cell
  have hlt := h.blk.lt
  simp only [AccS.cells] at hc
  clear h
  cases hw : d.wit
  · rw [hw] at hc
    go_enter Try.func42, Try.ntmps42
    go_wp2_with fail
    go_ret
    exact ⟨rfl, Upd.refl _ _⟩
  · rw [hw] at hc
    go_enter Try.func42, Try.ntmps42
    go_wp2_with ((with_reducible refine (digest_any s _ hs).mono ?_); rintro e w' ⟨rfl, hu⟩; have HU := hd hu; clear hu)
    go_ret
    exact ⟨rfl, HU.out⟩

theorem promise_any (B b : Nat) (l : Value) (d : AccS) (x : BalS) (w : World) (h : AccAt B w b l d) :
    Calls Try.prog 39 #[.pointer (some ⟨b, 0, none⟩), x.val] w fun e w' => e = .returned (.bool (!(d.bal.c == x.c && d.bal.n == x.n))) ∧ Upd [b] w w' ∧ AccAt B w' b l { d with bal := x } := by
  have hc := h.blk.cell
  have hlt := h.blk.lt
  have hz := h.blk.frozen
  have H := hd h
  simp only [AccS.cells] at hc
  clear h
  have HR := hd (show ∀ u, (!(d.bal.c == x.c && d.bal.n == x.n)) = u → Ending.returned (.bool u) = .returned (.bool (!(d.bal.c == x.c && d.bal.n == x.n))) from fun u h => by rw [h])
  unfold BalS.val
  go_enter Try.func39, Try.ntmps39
  have HU0 := Upd.refl [b] w
  go_wp2
  all_goals
    go_ret
    refine ⟨HR.out _ (by simp [*]), (by repeat (first | with_reducible exact HU0 | with_reducible exact Upd.refl _ _ | with_reducible refine Upd.alloc ?_ _ | with_reducible refine Upd.drew ?_ | with_reducible refine Upd.setCell ?_ (by first | (simp; done) | (simp; omega)) _)), ?_, ?_⟩
    · refine Blk.alloc (Blk.alloc ?_ _) _
      exact (H.out.blk.set 1 _).set 2 _
    · exact own_upd (L := [b]) H.out.own (by repeat (first | with_reducible exact HU0 | with_reducible exact Upd.refl _ _ | with_reducible refine Upd.alloc ?_ _ | with_reducible refine Upd.drew ?_ | with_reducible refine Upd.setCell ?_ (by first | (simp; done) | (simp; omega)) _)) (fun g hg => by simpa using H.out.ne g hg)
end Go.Proofs.Ytfhmdeamhmjddaa
