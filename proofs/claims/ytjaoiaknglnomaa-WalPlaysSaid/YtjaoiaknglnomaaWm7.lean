/-
  Package disk, walked: Spoil. Conditions: the strings of a disk are of at most 2^40 bytes each.
-/
import Derived.Test.YtjaoiaknglnomaaWm6
import Derived.Test.YtjaoiaknglnomaaWm0
import Derived.Test.YtjaoiaknglnomaaWm4
import Derived.Deep.RegionHeld3
set_option linter.unusedVariables false
namespace Go.Proofs.Ytjaoiaknglnomaa
open Go.RowKit

/-- A byte of a text is another one. -/
def spoilt (s : ByteArray) (i : Nat) (x : UInt8) : ByteArray := ⟨(s.data.toList.set i ((s.data.toList.getD i 0) ^^^ x)).toArray⟩
theorem spoilt_size (s : ByteArray) (i : Nat) (x : UInt8) : (spoilt s i x).size = s.size := by
  rw [← ByteArray.size_data, ← ByteArray.size_data]; simp only [spoilt, List.size_toArray, List.length_set, Array.length_toList]

theorem bytesAt_spoilt {w : World} {k : Nat} {s : ByteArray} (i : Nat) (x : UInt8) (h : BytesAt w k 0 s) (hi : i < s.size) {v : Value} (hv : v = .int .u8 (((s.data.toList.getD i 0) ^^^ x).toNat : Int)) :
    BytesAt (w.setCell ⟨k, i, none⟩ v) k 0 (spoilt s i x) := by
  intro j hj
  rw [spoilt_size] at hj
  have hb := h j hj
  rw [Nat.zero_add] at hb ⊢
  have hsz : s.data.toList.length = s.size := by rw [Array.length_toList, ByteArray.size_data]
  by_cases e : j = i
  · subst e
    rw [World.cell?_setCell_same (h := hb)]
    simp only [spoilt, List.getD, List.getElem?_set, hsz, hi, if_true, Option.getD_some, hv]
  · rw [World.cell?_setCell_other]
    · rw [hb]; simp only [spoilt, List.getD, List.getElem?_set, Ne.symm e, if_false]
    · simp only [ne_eq, Addr.mk.injEq, not_and]; intro _ h1; exact absurd h1.symm e

set_option maxRecDepth 100000 in
set_option maxHeartbeats 1000000 in
theorem spoil_yes (d : DiskS) (f : Nat) (at_ : Nat) (x : UInt8) (w : World) (b : Nat) (hd : DiskAt w b d) (hs : d.small) (hf : f < 4) (hsafe : (d.get f).safe = true) (hat : at_ < (d.get f).now.size) :
    Calls Try.prog 33 #[.pointer (some ⟨b, 0, none⟩), .int .i64 f, .int .i64 at_, .int .u8 (x.toNat : Int)] w fun e w' =>
      e = .returned (.bool true) ∧ Upd [b] w w' ∧ DiskAt w' b (d.set f ⟨spoilt (d.get f).now at_ x, spoilt (d.get f).now at_ x, false⟩) := by
  have hlt := hd.lt
  have hc := hd.cell
  simp only [DiskS.cells] at hc
  rcases (by omega : f = 0 ∨ f = 1 ∨ f = 2 ∨ f = 3) with rfl | rfl | rfl | rfl
  · have hsu : d.sureIt 0 = true := by simpa [DiskS.sureIt, FileS.safe, DiskS.get] using hsafe
    have hat' : at_ < d.f0.now.size := hat
    have hsm : d.f0.now.size ≤ 1099511627776 := (DiskS.get_small hs 0).1
    clear hat
    go_enter Try.func33, Try.ntmps33
    go_wp2_with fail
    refine (sure_any d 0 _ b hd).mono ?_
    rintro e w1 ⟨rfl, hu1⟩
    rw [hsu]
    have hd1 : DiskAt w1 b d := hd.upd hu1 (by simp)
    have hc1 := hd1.cell
    simp only [DiskS.cells] at hc1
    have hl1 := hd1.lt
    have HU1 := Lib.hid hu1
    have HD1 := Lib.hid hd1
    clear hc hu1 hsafe hsu hd hd1
    go_wp2_with (first | ((with_reducible refine wpList_conv_bytes rfl 9 47 5 _ rfl d.f0.now rfl Try.underlying9 Try.underlying47 Try.underlying5 ?_); intro k' c w2 hk1 hk2 hsc hu2 hb2 hz2; have hcx := hb2 at_ hat'; rw [Nat.zero_add] at hcx; have hzx := hz2 at_ hat'; have HB2 := Lib.hid hb2; generalize hy : d.f0.now.data.toList.getD at_ 0 = y at hcx; have HY := Lib.hid hy; clear hy; have HU2 := Lib.hid hu2; clear hb2 hz2 hu2) | (with_reducible refine wpList_conv_string rfl 47 9 5 _ rfl k' 0 _ _ (spoilt d.f0.now at_ x) rfl Try.underlying47 Try.underlying5 Try.underlying9 (spoilt_size _ _ _) (bytesAt_spoilt at_ x HB2.out hat' (by rw [HY.out, UInt8.toNat_xor, u8_xor_nat _ _ y.toNat_lt x.toNat_lt])) ?_) | fail)
    refine (settle_any d 0 (spoilt d.f0.now at_ x) _ b (Blk.set_other (HD1.out.upd HU2.out (by simp)) (by simp; omega) _) (by omega)).mono ?_
    rintro e w3 ⟨rfl, hu3, hd3⟩
    go_wp2
    go_ret
    exact ⟨rfl, ((HU1.out.mono (by simp)).trans ((HU2.out.mono (by simp)).setCell (.inr (by simp; omega)) _)).trans hu3, hd3⟩
  · have hsu : d.sureIt 1 = true := by simpa [DiskS.sureIt, FileS.safe, DiskS.get] using hsafe
    have hat' : at_ < d.f1.now.size := hat
    have hsm : d.f1.now.size ≤ 1099511627776 := (DiskS.get_small hs 1).1
    clear hat
    go_enter Try.func33, Try.ntmps33
    go_wp2_with fail
    refine (sure_any d 1 _ b hd).mono ?_
    rintro e w1 ⟨rfl, hu1⟩
    rw [hsu]
    have hd1 : DiskAt w1 b d := hd.upd hu1 (by simp)
    have hc1 := hd1.cell
    simp only [DiskS.cells] at hc1
    have hl1 := hd1.lt
    have HU1 := Lib.hid hu1
    have HD1 := Lib.hid hd1
    clear hc hu1 hsafe hsu hd hd1
    go_wp2_with (first | ((with_reducible refine wpList_conv_bytes rfl 9 47 5 _ rfl d.f1.now rfl Try.underlying9 Try.underlying47 Try.underlying5 ?_); intro k' c w2 hk1 hk2 hsc hu2 hb2 hz2; have hcx := hb2 at_ hat'; rw [Nat.zero_add] at hcx; have hzx := hz2 at_ hat'; have HB2 := Lib.hid hb2; generalize hy : d.f1.now.data.toList.getD at_ 0 = y at hcx; have HY := Lib.hid hy; clear hy; have HU2 := Lib.hid hu2; clear hb2 hz2 hu2) | (with_reducible refine wpList_conv_string rfl 47 9 5 _ rfl k' 0 _ _ (spoilt d.f1.now at_ x) rfl Try.underlying47 Try.underlying5 Try.underlying9 (spoilt_size _ _ _) (bytesAt_spoilt at_ x HB2.out hat' (by rw [HY.out, UInt8.toNat_xor, u8_xor_nat _ _ y.toNat_lt x.toNat_lt])) ?_) | fail)
    refine (settle_any d 1 (spoilt d.f1.now at_ x) _ b (Blk.set_other (HD1.out.upd HU2.out (by simp)) (by simp; omega) _) (by omega)).mono ?_
    rintro e w3 ⟨rfl, hu3, hd3⟩
    go_wp2
    go_ret
    exact ⟨rfl, ((HU1.out.mono (by simp)).trans ((HU2.out.mono (by simp)).setCell (.inr (by simp; omega)) _)).trans hu3, hd3⟩
  · have hsu : d.sureIt 2 = true := by simpa [DiskS.sureIt, FileS.safe, DiskS.get] using hsafe
    have hat' : at_ < d.f2.now.size := hat
    have hsm : d.f2.now.size ≤ 1099511627776 := (DiskS.get_small hs 2).1
    clear hat
    go_enter Try.func33, Try.ntmps33
    go_wp2_with fail
    refine (sure_any d 2 _ b hd).mono ?_
    rintro e w1 ⟨rfl, hu1⟩
    rw [hsu]
    have hd1 : DiskAt w1 b d := hd.upd hu1 (by simp)
    have hc1 := hd1.cell
    simp only [DiskS.cells] at hc1
    have hl1 := hd1.lt
    have HU1 := Lib.hid hu1
    have HD1 := Lib.hid hd1
    clear hc hu1 hsafe hsu hd hd1
    go_wp2_with (first | ((with_reducible refine wpList_conv_bytes rfl 9 47 5 _ rfl d.f2.now rfl Try.underlying9 Try.underlying47 Try.underlying5 ?_); intro k' c w2 hk1 hk2 hsc hu2 hb2 hz2; have hcx := hb2 at_ hat'; rw [Nat.zero_add] at hcx; have hzx := hz2 at_ hat'; have HB2 := Lib.hid hb2; generalize hy : d.f2.now.data.toList.getD at_ 0 = y at hcx; have HY := Lib.hid hy; clear hy; have HU2 := Lib.hid hu2; clear hb2 hz2 hu2) | (with_reducible refine wpList_conv_string rfl 47 9 5 _ rfl k' 0 _ _ (spoilt d.f2.now at_ x) rfl Try.underlying47 Try.underlying5 Try.underlying9 (spoilt_size _ _ _) (bytesAt_spoilt at_ x HB2.out hat' (by rw [HY.out, UInt8.toNat_xor, u8_xor_nat _ _ y.toNat_lt x.toNat_lt])) ?_) | fail)
    refine (settle_any d 2 (spoilt d.f2.now at_ x) _ b (Blk.set_other (HD1.out.upd HU2.out (by simp)) (by simp; omega) _) (by omega)).mono ?_
    rintro e w3 ⟨rfl, hu3, hd3⟩
    go_wp2
    go_ret
    exact ⟨rfl, ((HU1.out.mono (by simp)).trans ((HU2.out.mono (by simp)).setCell (.inr (by simp; omega)) _)).trans hu3, hd3⟩
  · have hsu : d.sureIt 3 = true := by simpa [DiskS.sureIt, FileS.safe, DiskS.get] using hsafe
    have hat' : at_ < d.f3.now.size := hat
    have hsm : d.f3.now.size ≤ 1099511627776 := (DiskS.get_small hs 3).1
    clear hat
    go_enter Try.func33, Try.ntmps33
    go_wp2_with fail
    refine (sure_any d 3 _ b hd).mono ?_
    rintro e w1 ⟨rfl, hu1⟩
    rw [hsu]
    have hd1 : DiskAt w1 b d := hd.upd hu1 (by simp)
    have hc1 := hd1.cell
    simp only [DiskS.cells] at hc1
    have hl1 := hd1.lt
    have HU1 := Lib.hid hu1
    have HD1 := Lib.hid hd1
    clear hc hu1 hsafe hsu hd hd1
    go_wp2_with (first | ((with_reducible refine wpList_conv_bytes rfl 9 47 5 _ rfl d.f3.now rfl Try.underlying9 Try.underlying47 Try.underlying5 ?_); intro k' c w2 hk1 hk2 hsc hu2 hb2 hz2; have hcx := hb2 at_ hat'; rw [Nat.zero_add] at hcx; have hzx := hz2 at_ hat'; have HB2 := Lib.hid hb2; generalize hy : d.f3.now.data.toList.getD at_ 0 = y at hcx; have HY := Lib.hid hy; clear hy; have HU2 := Lib.hid hu2; clear hb2 hz2 hu2) | (with_reducible refine wpList_conv_string rfl 47 9 5 _ rfl k' 0 _ _ (spoilt d.f3.now at_ x) rfl Try.underlying47 Try.underlying5 Try.underlying9 (spoilt_size _ _ _) (bytesAt_spoilt at_ x HB2.out hat' (by rw [HY.out, UInt8.toNat_xor, u8_xor_nat _ _ y.toNat_lt x.toNat_lt])) ?_) | fail)
    refine (settle_any d 3 (spoilt d.f3.now at_ x) _ b (Blk.set_other (HD1.out.upd HU2.out (by simp)) (by simp; omega) _) (by omega)).mono ?_
    rintro e w3 ⟨rfl, hu3, hd3⟩
    go_wp2
    go_ret
    exact ⟨rfl, ((HU1.out.mono (by simp)).trans ((HU2.out.mono (by simp)).setCell (.inr (by simp; omega)) _)).trans hu3, hd3⟩

theorem spoil_no (d : DiskS) (f at_ by_ : Int) (w : World) (b : Nat) (hd : DiskAt w b d) (hs : d.small) (h : d.sureIt f = false ∨ at_ < 0 ∨ ((d.get f.toNat).now.size : Int) ≤ at_) :
    Calls Try.prog 33 #[.pointer (some ⟨b, 0, none⟩), .int .i64 f, .int .i64 at_, .int .u8 by_] w fun e w' =>
      e = .returned (.bool false) ∧ Upd [] w w' := by
  by_cases h0 : d.sureIt f = false
  · go_enter Try.func33, Try.ntmps33
    go_wp2_with fail
    refine (sure_any d f _ b hd).mono ?_
    rintro e w1 ⟨rfl, hu1⟩
    rw [h0]
    go_wp2
    go_ret
    exact ⟨rfl, hu1⟩
  · by_cases h1 : at_ < 0
    · go_enter Try.func33, Try.ntmps33
      go_wp2_with fail
      refine (sure_any d f _ b hd).mono ?_
      rintro e w1 ⟨rfl, hu1⟩
      rw [show d.sureIt f = true by simpa using h0]
      clear h0 h
      go_wp2
      go_ret
      exact ⟨rfl, hu1⟩
    · have hh : ((d.get f.toNat).now.size : Int) ≤ at_ := by
        rcases h with h | h | h
        · exact absurd h h0
        · exact absurd h h1
        · exact h
      have hf : 0 ≤ f ∧ f < 4 := by
        by_cases hf : 0 ≤ f ∧ f < 4
        · exact hf
        · simp [DiskS.sureIt, hf] at h0
      have h0' : d.sureIt f = true := by simpa using h0
      clear h0 h
      obtain ⟨i, rfl⟩ : ∃ i : Nat, f = i := ⟨f.toNat, by omega⟩
      rcases (by omega : i = 0 ∨ i = 1 ∨ i = 2 ∨ i = 3) with rfl | rfl | rfl | rfl
      · have hh' : (d.f0.now.size : Int) ≤ at_ := hh
        have hsm : d.f0.now.size ≤ 1099511627776 := (DiskS.get_small hs 0).1
        clear hh hf
        go_enter Try.func33, Try.ntmps33
        go_wp2_with fail
        refine (sure_any d 0 _ b hd).mono ?_
        rintro e w1 ⟨rfl, hu1⟩
        rw [show d.sureIt 0 = true from h0']
        have hc1 := (hd.upd hu1 (by simp)).cell
        simp only [DiskS.cells] at hc1
        clear h0' hd
        go_wp2
        go_ret
        exact ⟨rfl, hu1⟩
      · have hh' : (d.f1.now.size : Int) ≤ at_ := hh
        have hsm : d.f1.now.size ≤ 1099511627776 := (DiskS.get_small hs 1).1
        clear hh hf
        go_enter Try.func33, Try.ntmps33
        go_wp2_with fail
        refine (sure_any d 1 _ b hd).mono ?_
        rintro e w1 ⟨rfl, hu1⟩
        rw [show d.sureIt 1 = true from h0']
        have hc1 := (hd.upd hu1 (by simp)).cell
        simp only [DiskS.cells] at hc1
        clear h0' hd
        go_wp2
        go_ret
        exact ⟨rfl, hu1⟩
      · have hh' : (d.f2.now.size : Int) ≤ at_ := hh
        have hsm : d.f2.now.size ≤ 1099511627776 := (DiskS.get_small hs 2).1
        clear hh hf
        go_enter Try.func33, Try.ntmps33
        go_wp2_with fail
        refine (sure_any d 2 _ b hd).mono ?_
        rintro e w1 ⟨rfl, hu1⟩
        rw [show d.sureIt 2 = true from h0']
        have hc1 := (hd.upd hu1 (by simp)).cell
        simp only [DiskS.cells] at hc1
        clear h0' hd
        go_wp2
        go_ret
        exact ⟨rfl, hu1⟩
      · have hh' : (d.f3.now.size : Int) ≤ at_ := hh
        have hsm : d.f3.now.size ≤ 1099511627776 := (DiskS.get_small hs 3).1
        clear hh hf
        go_enter Try.func33, Try.ntmps33
        go_wp2_with fail
        refine (sure_any d 3 _ b hd).mono ?_
        rintro e w1 ⟨rfl, hu1⟩
        rw [show d.sureIt 3 = true from h0']
        have hc1 := (hd.upd hu1 (by simp)).cell
        simp only [DiskS.cells] at hc1
        clear h0' hd
        go_wp2
        go_ret
        exact ⟨rfl, hu1⟩
end Go.Proofs.Ytjaoiaknglnomaa

/-
  twin.Cell.read and twin.Cell.lay, walked. Conditions: a disk as it may be, texts of sizes that there are.
-/
set_option linter.unusedVariables false
set_option linter.unusedSimpArgs false
set_option maxRecDepth 100000
namespace Go.Proofs.Ytjaoiaknglnomaa
open Go.RowKit

/-- A file's bytes, as a list. -/
def DiskS.file (d : DiskS) (f : Int) : List UInt8 := (d.readIt f).1.data.toList
abbrev CellAt (w : World) (kc bd : Nat) (f : Int) (ver : Nat) : Prop := Blk w kc #[.pointer (some ⟨bd, 0, none⟩), .int .i64 f, .int .u64 ver] 101

theorem set_small (d : DiskS) (i : Nat) (x : FileS) (h : d.small) (hx : x.small) : (d.set i x).small := by
  obtain ⟨h0, h1, h2, h3⟩ := h
  match i with
  | 0 => exact ⟨hx, h1, h2, h3⟩
  | 1 => exact ⟨h0, hx, h2, h3⟩
  | 2 => exact ⟨h0, h1, hx, h3⟩
  | n + 3 => exact ⟨h0, h1, h2, hx⟩
theorem set_rest (d : DiskS) (i : Nat) (x : FileS) : (d.set i x).room = d.room ∧ (d.set i x).fail = d.fail := by
  match i with
  | 0 => exact ⟨rfl, rfl⟩
  | 1 => exact ⟨rfl, rfl⟩
  | 2 => exact ⟨rfl, rfl⟩
  | n + 3 => exact ⟨rfl, rfl⟩
theorem set_fine (d : DiskS) (i : Nat) (x : FileS) (h : d.fine) (hx : x.small) : (d.set i x).fine := by
  obtain ⟨e1, e2⟩ := set_rest d i x
  exact ⟨set_small d i x h.small hx, by rw [e1]; exact h.room, by rw [e2]; exact h.fail0, by rw [e2]; exact h.fail1⟩
theorem put_fine (d : DiskS) (f : Int) (s : ByteArray) (h : d.fine) (hs : s.size ≤ 1099511627776) : (d.putIt f s).2.fine := by
  have ht := h.tried f
  unfold DiskS.putIt
  split
  · unfold DiskS.laid
    split
    · exact set_fine _ _ _ ht ⟨hs, (d.get_small h.small _).2⟩
    · exact ht
  · exact ht
theorem sync_fine (d : DiskS) (f : Int) (h : d.fine) : (d.syncIt f).2.fine := by
  have ht := h.tried f
  unfold DiskS.syncIt
  split
  · have := DiskS.get_small h.small f.toNat
    exact set_fine _ _ _ ht ⟨this.1, this.1⟩
  · exact ht
theorem file_size (d : DiskS) (f : Int) (h : d.fine) : (d.file f).length ≤ 1099511627776 := by
  unfold DiskS.file DiskS.readIt
  split
  · have := (DiskS.get_small h.small f.toNat).1
    rw [Array.length_toList, ByteArray.size_data]
    exact this
  · simp

theorem two_new2 (w : World) (A B : Array Value) (TA TB : TypeId) : ∃ W, (w.alloc (.cells A TA)).alloc (.cells B TB) = W ∧ Upd [] w W ∧ Blk W w.heap.size A TA ∧ Blk W (w.heap.size + 1) B TB ∧ W.heap.size = w.heap.size + 2 :=
  ⟨_, rfl, ((Upd.refl _ _).alloc _).alloc _, (Blk.new _ _ _).alloc _, Blk.new' _ _ _ (by simp), by simp⟩
set_option maxHeartbeats 2000000 in
theorem cread_any (d : DiskS) (f : Int) (ver : Nat) (kc bd : Nat) (w : World) (hd' : DiskAt w bd d) (hc : CellAt w kc bd f ver) (hf : d.fine) (hf0 : 0 ≤ f) (hf1 : f ≤ 2) :
    Calls Try.prog 57 #[.pointer (some ⟨kc, 0, none⟩)] w fun x w' =>
      x = .returned (.tuple #[.agg #[.int .u64 (parseL (d.file f)).version, .string (txt (parseL (d.file f)).text), .bool (parseL (d.file f)).bad], .agg #[.int .u64 (parseL (d.file (f + 1))).version, .string (txt (parseL (d.file (f + 1))).text), .bool (parseL (d.file (f + 1))).bad]]) ∧ Upd [] w w' := by
  have e2 := two_new2 w #[.int .u64 0, .string ⟨#[]⟩, .bool false] #[.int .u64 0, .string ⟨#[]⟩, .bool false] 103 103
  have HD := hd hd'
  have HC := hd hc
  have HP1 := hd (fun W => parse_any (d.file f) W (file_size d f hf))
  have HP2 := hd (fun W => parse_any (d.file (f + 1)) W (file_size d (f + 1) hf))
  have HR1 := hd (fun W (h : DiskAt W bd d) => read_any d f W bd h)
  have HR2 := hd (fun W (h : DiskAt W bd d) => read_any d (f + 1) W bd h)
  have HF1 := hd (show (d.readIt f).1 = txt (d.file f) from (txt_data _).symm)
  have HF2 := hd (show (d.readIt (f + 1)).1 = txt (d.file (f + 1)) from (txt_data _).symm)
  rw [HF1.out] at HR1
  rw [HF2.out] at HR2
  have hw1 : IntKind.i64.wrap (f + 1) = f + 1 := by rw [IntKind.wrap_i64]; omega
  generalize d.file (f + 1) = L2 at *
  generalize d.file f = L1 at *
  clear hd' hc HF1 HF2
  go_enter Try.func57, Try.ntmps57
  go_wp2_with fail
  obtain ⟨W, hW, hu, hA, hB, hsz⟩ := e2
  rw [hW]
  clear hW
  have hcc := (HC.out.upd hu (by simp))
  have hc0 : ∀ (y : Later [] W) o, y.world.cell? ⟨kc, o, none⟩ = #[.pointer (some ⟨bd, 0, none⟩), .int .i64 f, .int .u64 ver][o]? := fun y => (y.blk hcc (by simp)).cell
  have HRR1 := hd (fun y : Later [] W => HR1.out y.world (HD.out.upd (hu.trans y.upd) (by simp)))
  have HU := hd hu
  have HA := hd hA
  have HB := hd hB
  clear hcc hu hA hB
  refine wp_region_later [] (by kernel_rfl) (by kernel_rfl) ?_
  repeat (go_big_quiet_step (first
    | (go_at_call 20; refine later_call (HRR1.out _))))
  refine wpQuiet_nil ?_
  intro W1 hu1
  have HU1 := hd (HU.out.trans hu1)
  have HA1 := hd (HA.out.upd hu1 (by simp))
  have HB1 := hd (HB.out.upd hu1 (by simp))
  have hcc := (HC.out.upd HU1.out (by simp))
  clear hc0 HRR1 hu1 HU HA HB
  have hc0 : ∀ (y : Later [] W1) o, y.world.cell? ⟨kc, o, none⟩ = #[.pointer (some ⟨bd, 0, none⟩), .int .i64 f, .int .u64 ver][o]? := fun y => (y.blk hcc (by simp)).cell
  have HRR2 := hd (fun y : Later [] W1 => HR2.out y.world (HD.out.upd (HU1.out.trans y.upd) (by simp)))
  clear hcc
  go_wp2_with fail
  refine wp_region_later [] (by kernel_rfl) (by kernel_rfl) ?_
  repeat (go_big_quiet_step (first
    | (go_at_call 20; refine later_call (HRR2.out _))))
  refine wpQuiet_nil ?_
  intro W2 hu2
  have HU2 := hd (HU1.out.trans hu2)
  have HA2 := hd (HA1.out.upd hu2 (by simp))
  have HB2 := hd (HB1.out.upd hu2 (by simp))
  clear hc0 HRR2 hu2 HU1 HA1 HB1
  go_wp2_with fail
  refine (HP1.out W2).mono ?_
  rintro x W3 ⟨rfl, hu3⟩
  have HU3 := hd (HU2.out.trans hu3)
  have HA3 := hd (HA2.out.upd hu3 (by simp))
  have HB3 := hd (HB2.out.upd hu3 (by simp))
  clear hu3 HU2 HA2 HB2
  go_wp2_with fail
  refine (HP2.out W3).mono ?_
  rintro x W4 ⟨rfl, hu4⟩
  have HU4 := hd (HU3.out.trans hu4)
  have HA4 := hd (HA3.out.upd hu4 (by simp))
  have HB4 := hd (HB3.out.upd hu4 (by simp))
  clear hu4 HU3 HA3 HB3
  have hac := HA4.out.cell
  have haz := HA4.out.frozen
  have hbc := HB4.out.cell
  have hbz := HB4.out.frozen
  have nq : ¬ (w.heap.size = w.heap.size + 1) := by omega
  generalize hp1 : parseL L1 = p1 at *
  generalize hp2 : parseL L2 = p2 at *
  have HQ1 := hd hp1
  have HQ2 := hd hp2
  clear hp1 hp2
  go_wp2_with fail
  refine bodyPost_ret (v := .tuple #[.agg #[.int .u64 p1.version, .string (txt p1.text), .bool p1.bad], .agg #[.int .u64 p2.version, .string (txt p2.text), .bool p2.bad]]) (by simp [results, Try.results57, go_sem, hac, hbc]) rfl ?_
  have hx := Upd.refl [w.heap.size, w.heap.size + 1] W4
  rw [HQ1.out, HQ2.out]
  exact ⟨rfl, HU4.out.trans' (M := [w.heap.size, w.heap.size + 1]) (by repeat (first | with_reducible exact hx | with_reducible exact Upd.refl _ _ | with_reducible refine Upd.alloc ?_ _ | with_reducible refine Upd.drew ?_ | with_reducible refine Upd.setCell ?_ (by first | (simp; done) | (simp; omega)) _)) (by intro i hi; simp at hi; omega)⟩

/-- What lay answers, and leaves. -/
def DiskS.layIt (d : DiskS) (f : Int) (v : Nat) (s : List UInt8) : Int × DiskS :=
  if (d.putIt f (txt (spellL v s))).1 = 0 then (d.putIt f (txt (spellL v s))).2.syncIt f else d.putIt f (txt (spellL v s))
theorem spellL_len (v : Nat) (s : List UInt8) (hs : s.length ≤ 1000000) : (spellL v s).length ≤ 1048600 := by
  have h1 := uBytes_le v
  have h2 := nBytes_le (s.length : Int)
  unfold spellL frameL bodyL
  simp only [List.length_append, List.length_cons, wideOf_length]
  omega

set_option maxHeartbeats 2000000 in
theorem clay_any (d : DiskS) (first f : Int) (ver v : Nat) (s : List UInt8) (kc bd : Nat) (w : World) (hd' : DiskAt w bd d) (hc : CellAt w kc bd first ver) (hf : d.fine) (hv : v < 18446744073709551616) (hs : s.length ≤ 1000000) :
    Calls Try.prog 59 #[.pointer (some ⟨kc, 0, none⟩), .int .i64 f, .int .u64 v, .string (txt s)] w fun x w' => x = .returned (.int .i64 (d.layIt f v s).1) ∧ Upd [bd] w w' ∧ DiskAt w' bd (d.layIt f v s).2 := by
  have HL := hd (show d.layIt f v s = if (d.putIt f (txt (spellL v s))).1 = 0 then (d.putIt f (txt (spellL v s))).2.syncIt f else d.putIt f (txt (spellL v s)) from rfl)
  have hln := spellL_len v s hs
  have hne : kc ≠ bd := blk_ne hc hd' (by decide)
  have HSP := hd (fun W => spell_any v s W hv hs)
  have hpf := put_fine d f (txt (spellL v s)) hf (by simp; omega)
  have HPUT := hd (fun W (hu : Upd [] w W) => put_any d f (txt (spellL v s)) W bd (hd'.upd hu (by simp)) hf (by simp; omega))
  have HSY := hd (fun W (h : DiskAt W bd (d.putIt f (txt (spellL v s))).2) => sync_any (d.putIt f (txt (spellL v s))).2 f W bd h hpf)
  have HKS := hd (show ∀ W, Upd [bd] w W → Upd [bd] w W ∧ (∀ o, W.cell? ⟨kc, o, none⟩ = #[.pointer (some ⟨bd, 0, none⟩), .int .i64 first, .int .u64 ver][o]?) from fun W hu => ⟨hu, (hc.upd hu (by simpa using hne)).cell⟩)
  generalize spellL v s = sp at *
  generalize d.putIt f (txt sp) = P at *
  obtain ⟨pe, pd⟩ := P
  simp only at HL HPUT HSY hpf
  clear hd' hc
  go_enter Try.func59, Try.ntmps59
  go_wp2_with fail
  go_region_held3 (fun W => Upd [bd] w W ∧ (∀ o, W.cell? ⟨kc, o, none⟩ = #[.pointer (some ⟨bd, 0, none⟩), .int .i64 first, .int .u64 ver][o]?))
    ((refine HKS.out _ ?_; (try go_split_ands); repeat (first | with_reducible assumption | with_reducible exact hup3 | with_reducible exact hud.mono (by simp) | with_reducible exact Upd.refl _ _ | with_reducible refine Upd.drew ?_)))
    (first
    | ((with_reducible refine (HSP.out _).mono ?_); rintro x w2 ⟨rfl, hu2⟩; have hud : Upd [] w w2 := Upd.trans (by repeat (first | with_reducible exact Upd.refl _ _ | with_reducible refine Upd.drew ?_)) hu2)
    | ((with_reducible refine (HPUT.out _ hud).mono ?_); rintro x w3 ⟨rfl, hu3, hd3⟩; have hup3 : Upd [bd] w w3 := (hud.mono (by simp)).trans hu3))
  have hc3 := (HKS.out w3 hup3).2
  by_cases h0 : pe = 0
  · have h0b : (pe != 0) = false := by simp [h0]
    have H0 := hd h0
    clear h0
    go_wp2_with fail
    refine (HSY.out w3 hd3).mono ?_
    rintro x w4 ⟨rfl, hu4, hd4⟩
    go_wp2_with fail
    go_ret
    rw [HL.out, if_pos H0.out]
    exact ⟨rfl, hup3.trans hu4, hd4⟩
  · have h0b : (pe != 0) = true := by simpa using h0
    have H0 := hd h0
    clear h0
    go_wp2_with fail
    go_ret
    rw [HL.out, if_neg H0.out]
    exact ⟨rfl, hup3, hd3⟩
end Go.Proofs.Ytjaoiaknglnomaa
