/-
  accept.Digest and chatelaineref16.Digest, walked: the same bytes. Condition: the text is of a size that there is.
-/
import Derived.Test.YtfhmdeamhmjddaaBm1
import Derived.Laws.Bits64
import Derived.Test.YtfhmdeamhmjddaaBm0
set_option linter.unusedVariables false
set_option linter.unusedSimpArgs false
set_option maxRecDepth 100000
namespace Go.Proofs.Ytfhmdeamhmjddaa
open Go.RowKit

/-- One byte into the digest. -/
def fnvStep (h : Nat) (b : UInt8) : Nat := (h ^^^ b.toNat) * 1099511628211 % 18446744073709551616
def foldFrom (f : Nat → UInt8 → Nat) (h0 : Nat) (l : List UInt8) : Nat := l.foldl f h0
theorem foldFrom_snoc (f : Nat → UInt8 → Nat) (h0 : Nat) (l : List UInt8) (b : UInt8) : foldFrom f h0 (l ++ [b]) = f (foldFrom f h0 l) b := by
  simp only [foldFrom, List.foldl_append, List.foldl_cons, List.foldl_nil]
theorem foldFrom_lt (f : Nat → UInt8 → Nat) (M : Nat) (hf : ∀ h b, f h b < M) (h0 : Nat) (hh : h0 < M) (l : List UInt8) : foldFrom f h0 l < M := by
  rcases List.eq_nil_or_concat l with rfl | ⟨l', b, rfl⟩
  · exact hh
  · rw [List.concat_eq_append, foldFrom_snoc]; exact hf _ _
theorem mod_lt_of (n m : Nat) (h : 0 < m) : n % m < m := Nat.mod_lt _ h
theorem fnvStep_lt (h : Nat) (b : UInt8) : fnvStep h b < 18446744073709551616 := by
  unfold fnvStep
  generalize (h ^^^ b.toNat) * 1099511628211 = n
  exact mod_lt_of n _ (by decide)
def fnv (l : List UInt8) : Nat := foldFrom fnvStep 14695981039346656037 l
theorem fnv_lt (l : List UInt8) : fnv l < 18446744073709551616 := foldFrom_lt fnvStep _ fnvStep_lt _ (by decide) l
theorem fnv_snoc (l : List UInt8) (b : UInt8) : fnv (l ++ [b]) = fnvStep (fnv l) b := foldFrom_snoc _ _ l b
theorem fnv_step (h : Nat) (b : UInt8) (hh : h < 18446744073709551616) : IntKind.u64.wrap (bits .xor .u64 (h : Int) (IntKind.u64.wrap (b.toNat : Int)) * 1099511628211) = ((fnvStep h b : Nat) : Int) := by
  have hb := b.toNat_lt
  have e1 : IntKind.u64.wrap (b.toNat : Int) = (b.toNat : Int) := by rw [IntKind.wrap_u64]; omega
  rw [e1, bits_xor_u64_nat h b.toNat hh (by omega), IntKind.wrap_u64]
  unfold fnvStep
  simp only [Int.natCast_emod, Int.natCast_mul]
  rfl
/-- The digest of a text. -/
def digestOf (s : ByteArray) : ByteArray := txt (wideOf (fnv s.data.toList) 8)

set_option maxHeartbeats 1000000 in
theorem digest_any (s : ByteArray) (w : World) (hs : s.size ≤ 9223372036854775000) :
    Calls Try.prog 10 #[.string s] w fun e w' => e = .returned (.string (digestOf s)) ∧ Upd [] w w' := by
  go_enter Try.func10, Try.ntmps10
  go_wp2_with fail
  go_loopw [3, 9] (fun h i wr => ∃ j : Nat, j ≤ s.size ∧ i = .int .i64 j ∧ h = .int .u64 ((fnv (s.data.toList.take j) : Nat) : Int) ∧ w = wr) (fun _ i _ => s.size - (intOf i).toNat)
  case atStart => exact ⟨0, Nat.zero_le _, rfl, rfl, rfl⟩
  case round =>
    obtain ⟨j, hj, rfl, rfl, rfl⟩ := hrel
    by_cases hjn : j < s.size
    · have hh := fnv_lt (s.data.toList.take j)
      have hb : s.data.toList[j]? = some s[j] := by rw [List.getElem?_eq_getElem (by rw [size_data']; exact hjn)]; simp [ByteArray.getElem_eq_getElem_data]
      have hn := (show fnv (s.data.toList.take (j + 1)) = fnvStep (fnv (s.data.toList.take j)) s[j] by rw [List.take_add_one, hb]; exact fnv_snoc _ _)
      have HN := hd hn
      clear hn
      generalize fnv (s.data.toList.take j) = h at *
      go_wp2_with fail
      refine ⟨⟨j + 1, by omega, by go_num, ?_, trivial⟩, by simp [intOf]; omega⟩
      rw [HN.out, fnv_step h s[j] hh]
    · obtain rfl : j = s.size := by omega
      have hh := fnv_lt s.data.toList
      rw [show s.data.toList.take s.size = s.data.toList from by rw [← size_data', List.take_length]]
      have HD := hd (show digestOf s = txt (wideOf (fnv s.data.toList) 8) from rfl)
      generalize fnv s.data.toList = h at *
      have HB0 := hd (Blk.new w #[.int .u8 0, .int .u8 0, .int .u8 0, .int .u8 0, .int .u8 0, .int .u8 0, .int .u8 0, .int .u8 0] 72)
      go_wp2_with fail
      have hnb : w.heap.size < (w.alloc (.cells #[.int .u8 0, .int .u8 0, .int .u8 0, .int .u8 0, .int .u8 0, .int .u8 0, .int .u8 0, .int .u8 0] 72)).heap.size := HB0.out.lt
      go_loopw [20] (fun i wx => ∃ (t : Nat) (c : Array Value), t ≤ 8 ∧ i = .int .i64 t ∧ Blk wx w.heap.size c 72 ∧ c.size = 8 ∧ (∀ q, q < t → c[q]? = some (.int .u8 ((UInt8.ofNat (h / 256 ^ (7 - q))).toNat : Int))) ∧ Upd [] w wx) (fun i _ => 8 - (intOf i).toNat)
      case atStart => exact ⟨0, _, by omega, rfl, HB0.out, rfl, fun q hq => by omega, (Upd.refl _ _).alloc _⟩
      case round =>
        clear HB0 hnb
        obtain ⟨t, c, ht, rfl, hb, hc8, hcq, hu⟩ := hrel
        have HCQ := hd hcq
        have HB := hd hb
        have HU := hd hu
        have hlt := hb.lt
        clear hcq hu
        by_cases ht8 : t < 8
        · have hcell : ∃ u, wr.cell? ⟨w.heap.size, t, none⟩ = some u := by
            rw [hb.cell]; exact ⟨_, Array.getElem?_eq_getElem (by omega)⟩
          obtain ⟨u, hcu⟩ := hcell
          have hfz := hb.frozen t
          have hs0 : (0 : Int) ≤ 8 * (7 - (t : Int)) := by omega
          have hs1 : 8 * (7 - (t : Int)) < 64 := by omega
          clear hb
          go_wp2_with fail
          refine ⟨⟨t + 1, _, by omega, by go_num, HB.out.set t _, by simpa using hc8, fun q hq => ?_, HU.out.setCell (.inr (Nat.le_refl _)) _⟩, by simp [intOf]; omega⟩
          by_cases hqt : q = t
          · subst hqt
            rw [Array.getElem?_setIfInBounds_self_of_lt (by omega)]
            congr 2
            rw [Int.pow_mul]
            simp
          · rw [Array.getElem?_setIfInBounds_ne (Ne.symm hqt)]
            exact HCQ.out q (by omega)
        · obtain rfl : t = 8 := by omega
          have HBY := hd (show BytesAt wr w.heap.size 0 (txt (wideOf h 8)) from fun q hq => by
            have hq8 : q < 8 := by simpa [wideOf_length] using hq
            rw [Nat.zero_add, Blk.cell HB.out q, HCQ.out q hq8]
            have : ∀ q, q < 8 → (wideOf h 8)[q]? = some (UInt8.ofNat (h / 256 ^ (7 - q))) := by
              intro q hq
              rcases (by omega : q = 0 ∨ q = 1 ∨ q = 2 ∨ q = 3 ∨ q = 4 ∨ q = 5 ∨ q = 6 ∨ q = 7) with rfl | rfl | rfl | rfl | rfl | rfl | rfl | rfl <;> rfl
            have h1 := this q hq8
            simp only [txt, List.getD, h1, Option.getD_some])
          go_wp2_with (refine wpList_conv_string rfl 59 9 5 (.tmp 32) rfl w.heap.size 0 8 8 (txt (wideOf h 8)) rfl Try.underlying59 Try.underlying5 Try.underlying9 (by simp [wideOf_length]) HBY.out ?_)
          go_ret
          rw [HD.out]
          exact ⟨rfl, HU.out⟩

set_option maxHeartbeats 1000000 in
theorem refdigest_any (s : ByteArray) (w : World) (hs : s.size ≤ 9223372036854775000) :
    Calls Try.prog 11 #[.string s] w fun e w' => e = .returned (.string (digestOf s)) ∧ Upd [] w w' := by
  go_enter Try.func11, Try.ntmps11
  go_wp2_with fail
  go_loopw [3, 4] (fun h i wr => ∃ j : Nat, j ≤ s.size ∧ i = .int .i64 j ∧ h = .int .u64 ((fnv (s.data.toList.take j) : Nat) : Int) ∧ w = wr) (fun _ i _ => s.size - (intOf i).toNat)
  case atStart => exact ⟨0, Nat.zero_le _, rfl, rfl, rfl⟩
  case round =>
    obtain ⟨j, hj, rfl, rfl, rfl⟩ := hrel
    by_cases hjn : j < s.size
    · have hh := fnv_lt (s.data.toList.take j)
      have hb : s.data.toList[j]? = some s[j] := by rw [List.getElem?_eq_getElem (by rw [size_data']; exact hjn)]; simp [ByteArray.getElem_eq_getElem_data]
      have hn := (show fnv (s.data.toList.take (j + 1)) = fnvStep (fnv (s.data.toList.take j)) s[j] by rw [List.take_add_one, hb]; exact fnv_snoc _ _)
      have HN := hd hn
      clear hn
      generalize fnv (s.data.toList.take j) = h at *
      go_wp2_with fail
      refine ⟨⟨j + 1, by omega, by go_num, ?_, trivial⟩, by simp [intOf]; omega⟩
      rw [HN.out, fnv_step h s[j] hh]
    · obtain rfl : j = s.size := by omega
      have hh := fnv_lt s.data.toList
      rw [show s.data.toList.take s.size = s.data.toList from by rw [← size_data', List.take_length]]
      have HD := hd (show digestOf s = txt (wideOf (fnv s.data.toList) 8) from rfl)
      generalize fnv s.data.toList = h at *
      go_wp2_with fail
      go_loopw [3, 5, 6] (fun y o i wr => ∃ t : Nat, t ≤ 8 ∧ i = .int .i64 t ∧ y = .int .u64 ((h / 256 ^ t : Nat) : Int) ∧ o = .string (txt (wideOf h t)) ∧ Upd [] w wr) (fun _ _ i _ => 8 - (intOf i).toNat)
      case atStart => exact ⟨0, by omega, rfl, by simp, rfl, Upd.refl _ _⟩
      case round =>
        obtain ⟨t, ht, rfl, rfl, rfl, hu⟩ := hrel
        have HU := hd hu
        clear hu
        by_cases ht8 : t < 8
        · have hy : h / 256 ^ t < 18446744073709551616 := Nat.lt_of_le_of_lt (Nat.div_le_self _ _) hh
          have hdiv := hd (show (((h / 256 ^ t : Nat) : Int) / 256) = ((h / 256 ^ (t + 1) : Nat) : Int) by rw [Nat.pow_succ, ← Nat.div_div_eq_div_mul]; simp)
          generalize hye : h / 256 ^ t = y at *
          have hs : ∀ W : World, (Op.stringOp .add (txt [UInt8.ofNat y]) (txt (wideOf h t))).run Try.prog W = .ok (.string (txt (UInt8.ofNat y :: wideOf h t))) W := fun W => by
            rw [run_string_add_sum _ _ _ (by simp [wideOf_length]; omega), txt_append]; rfl
          go_wp2_with (refine wpList_conv_string rfl 59 9 5 (.tmp 28) rfl wr.heap.size 0 1 1 (txt [UInt8.ofNat y]) rfl Try.underlying59 Try.underlying5 Try.underlying9 (by simp) (fun i hi => by
            obtain rfl : i = 0 := by simpa using hi
            simp [txt]) ?_)
          go_roundw
          case rel => exact ⟨t + 1, by omega, by go_num, by rw [hdiv.out], by rw [← hye]; rfl, HU.out.alloc _⟩
          case measure => simp [intOf]; omega
        · obtain rfl : t = 8 := by omega
          go_wp2_with fail
          go_ret
          rw [HD.out]
          exact ⟨rfl, HU.out⟩
end Go.Proofs.Ytfhmdeamhmjddaa

/-
  Package accept: New, the getters, low, others, refuse, promise, kept, walked. Conditions: those that each theorem states.
-/
set_option linter.unusedVariables false
set_option linter.unusedSimpArgs false
set_option maxRecDepth 100000
namespace Go.Proofs.Ytfhmdeamhmjddaa
open Go.RowKit

/-- A message of the program. -/
structure MsgS where
  kind : Int := 0
  frm : Int := 0
  to : Int := 0
  sub : Int := 0
  bal : BalS := ⟨0, 0⟩
  slot : Int := 0
  time : Int := 0
  okb : Bool := false
  text : ByteArray := ⟨#[]⟩
def msgC (m : MsgS) (l : Value) : Array Value := #[.int .i64 m.kind, .int .i64 m.frm, .int .i64 m.to, .int .i64 m.sub, .int .u64 m.bal.c, .int .i64 m.bal.n, .int .i64 m.slot, .int .i64 m.time, .bool m.okb, .string m.text, l]
def MsgS.val (m : MsgS) (l : Value) : Value := .agg (msgC m l)

theorem two_new (w : World) (A R : Array Value) (T : TypeId) : ∃ W, (w.alloc (.cells A T)).alloc (.cells R T) = W ∧ Upd [] w W ∧ Blk W w.heap.size A T ∧ Blk W (w.heap.size + 1) R T ∧ W.heap.size = w.heap.size + 2 :=
  ⟨_, rfl, ((Upd.refl _ _).alloc _).alloc _, (Blk.new _ _ _).alloc _, Blk.new' _ _ _ (by simp), by simp⟩

def acc0 (wit : Bool) : AccS := ⟨wit, ⟨0, 0⟩, 0, [], 0, 0⟩

theorem AccAt.upd {B b : Nat} {l : Value} {d : AccS} {L : List Nat} {w w' : World} (h : AccAt B w b l d) (hu : Upd L w w') (hb : b ∉ L) (hl : ∀ g, l.ownBlock = some g → g ∉ L) : AccAt B w' b l d :=
  ⟨h.blk.upd hu hb, own_upd h.own hu hl⟩

theorem AccAt.ne {B b : Nat} {l : Value} {d : AccS} {w : World} (h : AccAt B w b l d) : ∀ g, l.ownBlock = some g → g ≠ b := by
  intro g hg
  rcases h.own.2 with he | ⟨g', cap, cur, he, hb, hg', _⟩
  · rw [he.1] at hg; cases hg
  · rw [he] at hg
    simp only [Value.ownBlock, Option.some.injEq] at hg
    subst hg
    rintro rfl
    have := h.blk
    rw [Blk, hg'] at this
    simp at this
theorem AccAt.low {B b : Nat} {l : Value} {d : AccS} {w : World} (h : AccAt B w b l d) : ∀ g, l.ownBlock = some g → B ≤ g ∧ g < w.heap.size := by
  intro g hg
  rcases h.own.2 with he | ⟨g', cap, cur, he, hb, hg', _⟩
  · rw [he.1] at hg; cases hg
  · rw [he] at hg
    simp only [Value.ownBlock, Option.some.injEq] at hg
    subst hg
    exact ⟨hb, Blk.lt hg'⟩

theorem anew_any (wit : Bool) (w : World) : Calls Try.prog 12 #[.bool wit] w fun e w' =>
    e = .returned (.pointer (some ⟨w.heap.size, 0, none⟩)) ∧ Upd [] w w' ∧ AccAt w.heap.size w' w.heap.size (.slice none 0 0) (acc0 wit) ∧ w.heap.size < w'.heap.size := by
  go_enter Try.func12, Try.ntmps12
  go_wp2
  go_ret
  exact ⟨rfl, (Upd.refl _ _).alloc _, ⟨Blk.new _ _ _, World.ownsRow_nil _ _ _ _⟩, by simp⟩

theorem promised_any (B b : Nat) (l : Value) (d : AccS) (w : World) (h : AccAt B w b l d) :
    Calls Try.prog 14 #[.pointer (some ⟨b, 0, none⟩)] w fun e w' => e = .returned d.bal.val ∧ Upd [] w w' := by
  have hc := h.blk.cell
  have hlt := h.blk.lt
  simp only [AccS.cells] at hc
  clear h
  unfold BalS.val
  go_enter Try.func14, Try.ntmps14
  go_wp2
  refine bodyPost_ret (v := .agg #[.int .u64 d.bal.c, .int .i64 d.bal.n]) (by simp [results, Try.results14, go_sem]) rfl ?_
  exact ⟨rfl, (Upd.refl _ _).alloc _⟩
theorem base_any (B b : Nat) (l : Value) (d : AccS) (w : World) (h : AccAt B w b l d) :
    Calls Try.prog 22 #[.pointer (some ⟨b, 0, none⟩)] w fun e w' => e = .returned (.int .i64 d.base) ∧ w = w' := by
  have hc := h.blk.cell
  have hlt := h.blk.lt
  simp only [AccS.cells] at hc
  clear h
  go_enter Try.func22, Try.ntmps22
  go_wp2
  go_ret
  exact ⟨rfl, rfl⟩
theorem witness_any (B b : Nat) (l : Value) (d : AccS) (w : World) (h : AccAt B w b l d) :
    Calls Try.prog 34 #[.pointer (some ⟨b, 0, none⟩)] w fun e w' => e = .returned (.bool d.wit) ∧ w = w' := by
  have hc := h.blk.cell
  have hlt := h.blk.lt
  simp only [AccS.cells] at hc
  clear h
  go_enter Try.func34, Try.ntmps34
  go_wp2
  go_ret
  exact ⟨rfl, rfl⟩
theorem holder_any (B b : Nat) (l : Value) (d : AccS) (w : World) (h : AccAt B w b l d) (h0 : 0 ≤ d.node) (h1 : d.node < 4611686018427387904) :
    Calls Try.prog 15 #[.pointer (some ⟨b, 0, none⟩)] w fun e w' => e = .returned (.tuple #[.int .i64 (d.node - 1), .int .i64 d.til]) ∧ Upd [] w w' := by
  have hc := h.blk.cell
  have hlt := h.blk.lt
  simp only [AccS.cells] at hc
  clear h
  go_enter Try.func15, Try.ntmps15
  go_wp2
  try go_region
  try go_wp2
  go_ret2
  exact ⟨rfl, (Upd.refl _ _).drew⟩

def AccS.low (d : AccS) (b : BalS) : Bool := decide (b.cmp d.bal < 0)
theorem low_any (B b : Nat) (l : Value) (d : AccS) (x : BalS) (w : World) (h : AccAt B w b l d) :
    Calls Try.prog 38 #[.pointer (some ⟨b, 0, none⟩), x.val] w fun e w' => e = .returned (.bool (d.low x)) ∧ Upd [] w w' := by
  have HL := hd (show d.low x = decide (x.cmp d.bal < 0) from rfl)
  have HX := hd (show x.val = .agg #[.int .u64 x.c, .int .i64 x.n] from rfl)
  unfold BalS.val
  go_enter Try.func38, Try.ntmps38
  go_wp2
  have h0 : Blk (w.alloc (.cells #[.int .u64 x.c, .int .i64 x.n] 35)) w.heap.size #[.int .u64 x.c, .int .i64 x.n] 35 := Blk.new _ _ _
  have h1 : Blk (w.alloc (.cells #[.int .u64 x.c, .int .i64 x.n] 35)) b (d.cells l) 76 := h.blk.alloc _
  have hu := (Upd.refl [] w).alloc (.cells #[.int .u64 x.c, .int .i64 x.n] 35)
  generalize w.alloc (.cells #[.int .u64 x.c, .int .i64 x.n] 35) = W at *
  have hc0 : ∀ (y : Later [] W) o, y.world.cell? ⟨w.heap.size, o, none⟩ = #[Value.int .u64 x.c, .int .i64 x.n][o]? := fun y => (y.blk h0 (by simp)).cell
  have hc1 : ∀ (y : Later [] W) o, y.world.cell? ⟨b, o, none⟩ = (d.cells l)[o]? := fun y => (y.blk h1 (by simp)).cell
  simp only [AccS.cells] at hc1
  have HU := hd hu
  clear hu h0 h1
  refine wp_region_later [] (by kernel_rfl) (by kernel_rfl) ?_
  repeat (go_big_quiet_step ((go_at_call 19; refine later_call (bcompare_any x d.bal _))))
  refine wpQuiet_nil ?_
  intro W1 hu1
  go_wp2
  go_ret
  exact ⟨ret_b (by rw [HL.out]), HU.out.trans hu1⟩

def AccS.others (d : AccS) (n now : Int) : Bool := decide (d.node ≠ 0) && decide (d.node ≠ n + 1) && decide (0 < d.til - now)
theorem others_any (B b : Nat) (l : Value) (d : AccS) (n now : Int) (w : World) (h : AccAt B w b l d) (hn0 : -4611686018427387904 < n) (hn1 : n < 4611686018427387904) (hw0 : -4611686018427387904 < now) (hw1 : now < 4611686018427387904)
    (ht0 : -4611686018427387904 < d.til) (ht1 : d.til < 4611686018427387904) :
    Calls Try.prog 36 #[.pointer (some ⟨b, 0, none⟩), .int .i64 n, .int .i64 now] w fun e w' => e = .returned (.tuple #[.int .i64 (d.til - now), .bool (d.others n now)]) ∧ w = w' := by
  have hc := h.blk.cell
  have hlt := h.blk.lt
  simp only [AccS.cells] at hc
  clear h
  have HO := hd (show d.others n now = (decide (d.node ≠ 0) && decide (d.node ≠ n + 1) && decide (0 < d.til - now)) from rfl)
  go_enter Try.func36, Try.ntmps36
  have k0 : decide (d.node ≠ 0) = (d.node != 0) := by by_cases e : d.node = 0 <;> simp [e]
  by_cases h0 : d.node = 0
  · go_wp2
    go_ret2
    exact ⟨by rw [HO.out]; simp [h0], rfl⟩
  · by_cases h1 : d.node = n + 1
    · go_wp2
      go_ret2
      exact ⟨by rw [HO.out]; simp [h0, h1], rfl⟩
    · have e0 : (d.node != 0) = true := by simpa using h0
      have e1 : (d.node != n + 1) = true := by simpa using h1
      have HE := hd (show d.others n now = decide (0 < d.til - now) by rw [HO.out]; simp [h0, h1])
      clear k0 HO
      go_wp2
      go_ret2
      exact ⟨by rw [HE.out]; simp [h0, h1], rfl⟩

theorem refuse_any (B b : Nat) (l : Value) (d : AccS) (left : Int) (w : World) (h : AccAt B w b l d) :
    Calls Try.prog 37 #[.pointer (some ⟨b, 0, none⟩), .int .i64 left] w fun e w' => e = .returned (MsgS.val { kind := 5, bal := d.bal, time := left } (.slice none 0 0)) ∧ Upd [] w w' := by
  have hc := h.blk.cell
  have hlt := h.blk.lt
  simp only [AccS.cells] at hc
  clear h
  unfold MsgS.val msgC
  go_enter Try.func37, Try.ntmps37
  go_wp2
  refine bodyPost_ret (v := _) (by simp [results, Try.results37, go_sem]; rfl) rfl ?_
  exact ⟨rfl, (Upd.refl _ _).alloc _⟩

theorem kept_any (B b : Nat) (l : Value) (d : AccS) (s : ByteArray) (w : World) (h : AccAt B w b l d) (hs : s.size ≤ 9223372036854775000) :
    Calls Try.prog 42 #[.pointer (some ⟨b, 0, none⟩), .string s] w fun e w' => e = .returned (.string (if d.wit = true then digestOf s else s)) ∧ Upd [] w w' := by
  have hc := h.blk.cell
  have hlt := h.blk.lt
  simp only [AccS.cells] at hc
  clear h
  cases hw : d.wit
  · rw [hw] at hc
    go_enter Try.func42, Try.ntmps42
    go_wp2_with fail
    go_ret
    exact ⟨rfl, Upd.refl _ _⟩
  · rw [hw] at hc
    go_enter Try.func42, Try.ntmps42
    go_wp2_with ((with_reducible refine (digest_any s _ hs).mono ?_); rintro e w' ⟨rfl, hu⟩; have HU := hd hu; clear hu)
    go_ret
    exact ⟨rfl, HU.out⟩

theorem promise_any (B b : Nat) (l : Value) (d : AccS) (x : BalS) (w : World) (h : AccAt B w b l d) :
    Calls Try.prog 39 #[.pointer (some ⟨b, 0, none⟩), x.val] w fun e w' => e = .returned (.bool (!(d.bal.c == x.c && d.bal.n == x.n))) ∧ Upd [b] w w' ∧ AccAt B w' b l { d with bal := x } := by
  have hc := h.blk.cell
  have hlt := h.blk.lt
  have hz := h.blk.frozen
  have H := hd h
  simp only [AccS.cells] at hc
  clear h
  have HR := hd (show ∀ u, (!(d.bal.c == x.c && d.bal.n == x.n)) = u → Ending.returned (.bool u) = .returned (.bool (!(d.bal.c == x.c && d.bal.n == x.n))) from fun u h => by rw [h])
  unfold BalS.val
  go_enter Try.func39, Try.ntmps39
  have HU0 := Upd.refl [b] w
  go_wp2
  all_goals
    go_ret
    refine ⟨HR.out _ (by simp [*]), (by repeat (first | with_reducible exact HU0 | with_reducible exact Upd.refl _ _ | with_reducible refine Upd.alloc ?_ _ | with_reducible refine Upd.drew ?_ | with_reducible refine Upd.setCell ?_ (by first | (simp; done) | (simp; omega)) _)), ?_, ?_⟩
    · refine Blk.alloc (Blk.alloc ?_ _) _
      exact (H.out.blk.set 1 _).set 2 _
    · exact own_upd (L := [b]) H.out.own (by repeat (first | with_reducible exact HU0 | with_reducible exact Upd.refl _ _ | with_reducible refine Upd.alloc ?_ _ | with_reducible refine Upd.drew ?_ | with_reducible refine Upd.setCell ?_ (by first | (simp; done) | (simp; omega)) _)) (fun g hg => by simpa using H.out.ne g hg)
end Go.Proofs.Ytfhmdeamhmjddaa

/-
  Package accept: find (by slices.BinarySearchFunc), walked. Conditions: the entries stand in order of their slots.
-/
set_option linter.unusedVariables false
set_option linter.unusedSimpArgs false
set_option maxRecDepth 100000
namespace Go.Proofs.Ytfhmdeamhmjddaa
open Go.RowKit

/-- A slot that there may be. -/
def SlotIn (z : Int) : Prop := -1099511627776 ≤ z ∧ z ≤ 1099511627776
/-- In order of their slots, and not too many. -/
structure SortedE (l : List EntS) : Prop where
  len : l.length ≤ 1024
  slots : ∀ e ∈ l, SlotIn e.slot
  order : l.Pairwise fun a b => a.slot < b.slot
/-- So many entries ahead of a slot. -/
def aheadOf (l : List EntS) (n : Int) : Nat := (l.takeWhile fun e => decide (e.slot < n)).length
/-- Has the slot its entry? -/
def hasSlot (l : List EntS) (n : Int) : Bool := l.any fun e => e.slot == n

theorem entCells_length (l : List EntS) : (entCells l).length = l.length * 4 := by
  induction l with
  | nil => rfl
  | cons a t ih => simp only [entCells, List.flatMap_cons, List.length_append, EntS.cells, List.length_cons, List.length_nil] at *; omega
theorem entCells_get (l : List EntS) (i : Nat) (hi : i < l.length) (j : Nat) (hj : j < 4) : (entCells l)[i * 4 + j]? = (l[i]).cells[j]? := by
  induction l generalizing i with
  | nil => simp at hi
  | cons a t ih =>
    have e : entCells (a :: t) = a.cells ++ entCells t := rfl
    rw [e]
    cases i with
    | zero =>
      rw [List.getElem?_append_left (by simp [EntS.cells]; omega)]
      simp
    | succ i =>
      rw [List.getElem?_append_right (by simp [EntS.cells]; omega)]
      have := ih i (by simpa using hi)
      rw [show (i + 1) * 4 + j - a.cells.length = i * 4 + j by simp [EntS.cells]; omega]
      rw [this]
      simp

theorem own_open {w : World} {B T sz : Nat} {v : Value} {n : Nat} {xs : List Value} (h : w.ownsRow B T sz v n xs) :
    ∃ a cap, v = .slice a n cap ∧ n ≤ cap ∧ cap ≤ maxLen ∧ (0 < n → ∃ g, a = some ⟨g, 0, none⟩ ∧ B ≤ g ∧ g < w.heap.size ∧ (∀ j, j < n * sz → w.cell? ⟨g, j, none⟩ = xs[j]?) ∧ (∀ j, w.frozen? ⟨g, j, none⟩ = false)) := by
  have hh := h
  obtain ⟨hl, h⟩ := h
  rcases h with ⟨rfl, rfl⟩ | ⟨g, cap, cur, rfl, hb, hg, hnc, hcm, hcs, ht⟩
  · exact ⟨none, 0, rfl, Nat.le_refl _, by unfold maxLen; omega, by omega⟩
  · refine ⟨_, cap, rfl, hnc, hcm, fun hn => ?_⟩
    obtain ⟨g', cap', e, h1, h2, h3, h4, h5⟩ := own_cases hh hn
    simp only [Value.slice.injEq, Option.some.injEq, Addr.mk.injEq, and_true, true_and] at e
    obtain ⟨rfl, rfl⟩ := e
    exact ⟨g, rfl, h1, h2, h4, h5⟩

theorem aheadOf_eq (l : List EntS) (n : Int) (k : Nat) (hk : k ≤ l.length) (h1 : ∀ t (ht : t < l.length), t < k → l[t].slot < n) (h2 : ∀ t (ht : t < l.length), k ≤ t → n ≤ l[t].slot) : aheadOf l n = k := by
  unfold aheadOf
  induction l generalizing k with
  | nil => simp at hk; subst hk; rfl
  | cons a t ih =>
    cases k with
    | zero =>
      have := h2 0 (by simp) (by omega)
      simp at this
      rw [List.takeWhile_cons_of_neg (by simpa using this)]
      rfl
    | succ k =>
      have := h1 0 (by simp) (by omega)
      simp at this
      rw [List.takeWhile_cons_of_pos (by simpa using this)]
      simp only [List.length_cons]
      rw [ih k (by simpa using hk) (fun t ht hk => by have := h1 (t + 1) (by simpa using ht) (by omega); rwa [List.getElem_cons_succ] at this) (fun t ht hk => by have := h2 (t + 1) (by simpa using ht) (by omega); rwa [List.getElem_cons_succ] at this)]
theorem hasSlot_eq (l : List EntS) (n : Int) (k : Nat) (hs : SortedE l) (h1 : ∀ t (ht : t < l.length), t < k → l[t].slot < n) (h2 : ∀ t (ht : t < l.length), k ≤ t → n ≤ l[t].slot) (b : Bool)
    (hb : b = true ↔ ∃ h : k < l.length, l[k].slot = n) : hasSlot l n = b := by
  rw [Bool.eq_iff_iff, hb]
  simp only [hasSlot, List.any_eq_true, beq_iff_eq]
  constructor
  · rintro ⟨e, he, rfl⟩
    obtain ⟨t, ht, rfl⟩ := List.getElem_of_mem he
    have ht1 : ¬ t < k := fun h => by have := h1 t ht h; omega
    have hkl : k < l.length := by omega
    refine ⟨hkl, ?_⟩
    rcases Nat.lt_or_ge k t with h | h
    · have h3 := List.pairwise_iff_getElem.1 hs.order k t hkl ht h
      have := h2 k hkl (Nat.le_refl _)
      omega
    · obtain rfl : t = k := by omega
      rfl
  · rintro ⟨h, e⟩
    exact ⟨_, List.getElem_mem h, e⟩

theorem find1_any (s c k n : Int) (t : ByteArray) (w : World) (he : SlotIn s) (hn : SlotIn n) :
    Calls Try.prog 67 #[.agg #[.int .i64 s, .int .u64 c, .int .i64 k, .string t], .int .i64 n] w fun r w' => r = .returned (.int .i64 (s - n)) ∧ Upd [] w w' := by
  obtain ⟨he0, he1⟩ := he
  obtain ⟨hn0, hn1⟩ := hn
  go_enter Try.func67, Try.ntmps67
  go_wp2
  go_ret
  exact ⟨rfl, (Upd.refl _ _).alloc _⟩

set_option maxHeartbeats 1000000 in
theorem search_any (B : Nat) (v : Value) (l : List EntS) (n : Int) (w : World) (h : w.ownsRow B 85 4 v l.length (entCells l)) (hs : SortedE l) (hn : SlotIn n) :
    Calls Try.prog 66 #[v, .int .i64 n, .func (.func 67) #[] #[]] w fun r w' =>
      r = .returned (.tuple #[.int .i64 (aheadOf l n : Int), .bool (hasSlot l n)]) ∧ Upd [] w w' := by
  obtain ⟨a, cap, rfl, hcap, hcm, hrow⟩ := own_open h
  have hcell : ∀ wr, Upd [] w wr → ∀ t (ht : t < l.length), ∃ g, a = some ⟨g, 0, none⟩ ∧ wr.cell? ⟨g, t * 4, none⟩ = some (.int .i64 l[t].slot) ∧ wr.cell? ⟨g, t * 4 + 1, none⟩ = some (.int .u64 l[t].bal.c) ∧
      wr.cell? ⟨g, t * 4 + 2, none⟩ = some (.int .i64 l[t].bal.n) ∧ wr.cell? ⟨g, t * 4 + 3, none⟩ = some (.string l[t].text) := by
    intro wr hu t ht
    obtain ⟨g, rfl, hg, hgl, hc, hf⟩ := hrow (by omega)
    have hc' : ∀ j, j < l.length * 4 → wr.cell? ⟨g, j, none⟩ = (entCells l)[j]? := fun j hj => by rw [← hc j hj]; exact World.cell?_of_block (hu.block g hgl (by simp))
    refine ⟨g, rfl, ?_, ?_, ?_, ?_⟩
    · rw [hc' _ (by omega)]; exact entCells_get l t ht 0 (by omega)
    · rw [hc' _ (by omega)]; exact entCells_get l t ht 1 (by omega)
    · rw [hc' _ (by omega)]; exact entCells_get l t ht 2 (by omega)
    · rw [hc' _ (by omega)]; exact entCells_get l t ht 3 (by omega)
  have HC := hd hcell
  have HS := hd hs
  have HN := hd hn
  have hl := hs.len
  clear hcell hrow h hs hn hcm
  go_enter Try.func66, Try.ntmps66
  go_wp2_with fail
  go_loopw [9, 10] (fun s9 s10 wr => ∃ lo hi : Nat, s9 = .int .i64 lo ∧ s10 = .int .i64 hi ∧ lo ≤ hi ∧ hi ≤ l.length ∧ Upd [] w wr ∧ Hd ((∀ t (ht : t < l.length), t < lo → l[t].slot < n) ∧ (∀ t (ht : t < l.length), hi ≤ t → n ≤ l[t].slot))) (fun s9 s10 _ => (intOf s10 - intOf s9).toNat)
  case atStart => exact ⟨0, l.length, rfl, rfl, Nat.zero_le _, Nat.le_refl _, Upd.refl _ _, hd ⟨fun t ht h => by omega, fun t ht h => by omega⟩⟩
  case round =>
    obtain ⟨lo, hi, rfl, rfl, hlh, hin, hu, hI⟩ := hrel
    have HU := hd hu
    by_cases hlt : lo < hi
    · obtain ⟨m, hml, hmh, hmi⟩ : ∃ m : Nat, lo ≤ m ∧ m < hi ∧ ((lo : Int) + (hi : Int)) / 2 = (m : Int) := ⟨(lo + hi) / 2, by omega, by omega, by omega⟩
      have hmb : m < l.length := by omega
      obtain ⟨g, rfl, c0, c1, c2, c3⟩ := HC.out wr hu m (by omega)
      have hm0 := hd (HS.out.slots _ (List.getElem_mem (show m < l.length by omega)))
      clear hu
      have hmid := hd (show ∀ t (ht : t < l.length), (t < m → l[t].slot < (l[m]'(by omega)).slot) ∧ (m < t → (l[m]'(by omega)).slot < l[t].slot) from fun t ht =>
        ⟨fun h => List.pairwise_iff_getElem.1 HS.out.order t _ ht _ h, fun h => List.pairwise_iff_getElem.1 HS.out.order _ t _ ht h⟩)
      generalize hel : l[m]'_ = e at *
      have HEL := hd hel
      clear hel
      obtain ⟨s, ⟨c, k⟩, tx⟩ := e
      simp only at c0 c1 c2 c3 hm0 hmid
      by_cases hsn : s < n
      · have hsn' : s - n < 0 := by omega
        go_wp2_with ((with_reducible refine (find1_any _ _ _ _ _ _ hm0.out HN.out).mono ?_); rintro e w' ⟨rfl, hu⟩; have HU1 := hd hu; clear hu)
        go_roundw
        case rel => exact ⟨m + 1, hi, by go_num, rfl, by omega, hin, HU.out.trans HU1.out, hd ⟨fun t ht h => by
          rcases Nat.lt_or_ge t m with h1 | h1
          · have := (hmid.out t ht).1 h1; omega
          · obtain rfl : t = m := by omega
            rw [HEL.out]; exact hsn, hI.out.2⟩⟩
        case measure => simp [intOf]; omega
      · have hsn' : ¬ s - n < 0 := by omega
        go_wp2_with ((with_reducible refine (find1_any _ _ _ _ _ _ hm0.out HN.out).mono ?_); rintro e w' ⟨rfl, hu⟩; have HU1 := hd hu; clear hu)
        go_roundw
        case rel => exact ⟨lo, m, rfl, rfl, hml, by omega, HU.out.trans HU1.out, hd ⟨hI.out.1, fun t ht h => by
          rcases Nat.lt_or_ge m t with h1 | h1
          · have := (hmid.out t ht).2 h1; omega
          · obtain rfl : t = m := by omega
            rw [HEL.out]; show n ≤ s; omega⟩⟩
        case measure => simp [intOf]; omega
    · obtain rfl : hi = lo := by omega
      have HA := hd (aheadOf_eq l n hi hin hI.out.1 hI.out.2)
      have HB := hd (hasSlot_eq l n hi HS.out hI.out.1 hI.out.2)
      by_cases hhl : hi < l.length
      · obtain ⟨g, rfl, c0, c1, c2, c3⟩ := HC.out wr hu hi hhl
        have hm0 := hd (HS.out.slots _ (List.getElem_mem hhl))
        have HB' := hd (show ∀ b : Bool, (b = true ↔ l[hi].slot = n) → hasSlot l n = b from fun b hb => HB.out b (hb.trans ⟨fun h => ⟨hhl, h⟩, fun ⟨_, h⟩ => h⟩))
        clear hu HB
        generalize l[hi]'_ = e at *
        obtain ⟨s, ⟨c, k⟩, tx⟩ := e
        simp only at c0 c1 c2 c3 hm0 HB'
        have hhl' : (hi : Int) < (l.length : Int) := by omega
        go_wp2_with ((with_reducible refine (find1_any _ _ _ _ _ _ hm0.out HN.out).mono ?_); rintro e w' ⟨rfl, hu⟩; have HU1 := hd hu; clear hu)
        go_ret2
        rw [HA.out, HB'.out (s - n == 0) (by simp; omega)]
        exact ⟨rfl, HU.out.trans HU1.out⟩
      · have hhl' : ¬ (hi : Int) < (l.length : Int) := by omega
        clear hu
        go_wp2_with fail
        go_ret2
        rw [HA.out, HB.out false (by simp; omega)]
        exact ⟨rfl, HU.out⟩

theorem find_any (B b : Nat) (l : Value) (d : AccS) (n : Int) (w : World) (h : AccAt B w b l d) (hs : SortedE d.list) (hn : SlotIn n) :
    Calls Try.prog 40 #[.pointer (some ⟨b, 0, none⟩), .int .i64 n] w fun r w' =>
      r = .returned (.tuple #[.int .i64 (aheadOf d.list n : Int), .bool (hasSlot d.list n)]) ∧ Upd [] w w' := by
  have hc := h.blk.cell
  have hlt := h.blk.lt
  have H := hd h
  simp only [AccS.cells] at hc
  clear h
  go_enter Try.func40, Try.ntmps40
  go_wp2_with ((with_reducible refine (search_any B l d.list n _ H.out.own hs hn).mono ?_); rintro e w' ⟨rfl, hu⟩; have HU := hd hu; clear hu)
  go_ret2
  exact ⟨rfl, HU.out⟩
end Go.Proofs.Ytfhmdeamhmjddaa
