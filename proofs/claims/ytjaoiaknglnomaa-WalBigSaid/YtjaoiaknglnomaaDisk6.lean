/-
  Package disk, walked: Spoil. Conditions: the strings of a disk are of at most 2^40 bytes each.
-/
import Derived.Test.YtjaoiaknglnomaaDisk5
import Derived.Test.YtjaoiaknglnomaaLaws
set_option linter.unusedVariables false
namespace Go.Proofs.Ytjaoiaknglnomaa
open Go.RowKit

/-- A byte of a text is another one. -/
def spoilt (s : ByteArray) (i : Nat) (x : UInt8) : ByteArray := ⟨(s.data.toList.set i ((s.data.toList.getD i 0) ^^^ x)).toArray⟩
theorem spoilt_size (s : ByteArray) (i : Nat) (x : UInt8) : (spoilt s i x).size = s.size := by
  rw [← ByteArray.size_data, ← ByteArray.size_data]; simp only [spoilt, List.size_toArray, List.length_set, Array.length_toList]

theorem bytesAt_spoilt {w : World} {k : Nat} {s : ByteArray} (i : Nat) (x : UInt8) (h : BytesAt w k 0 s) (hi : i < s.size) {v : Value} (hv : v = .int .u8 (((s.data.toList.getD i 0) ^^^ x).toNat : Int)) :
    BytesAt (w.setCell ⟨k, i, none⟩ v) k 0 (spoilt s i x) := by
  intro j hj
  rw [spoilt_size] at hj
  have hb := h j hj
  rw [Nat.zero_add] at hb ⊢
  have hsz : s.data.toList.length = s.size := by rw [Array.length_toList, ByteArray.size_data]
  by_cases e : j = i
  · subst e
    rw [World.cell?_setCell_same (h := hb)]
    simp only [spoilt, List.getD, List.getElem?_set, hsz, hi, if_true, Option.getD_some, hv]
  · rw [World.cell?_setCell_other]
    · rw [hb]; simp only [spoilt, List.getD, List.getElem?_set, Ne.symm e, if_false]
    · simp only [ne_eq, Addr.mk.injEq, not_and]; intro _ h1; exact absurd h1.symm e

set_option maxRecDepth 100000 in
set_option maxHeartbeats 1000000 in
theorem spoil_yes (d : DiskS) (f : Nat) (at_ : Nat) (x : UInt8) (w : World) (b : Nat) (hd : DiskAt w b d) (hs : d.small) (hf : f < 4) (hsafe : (d.get f).safe = true) (hat : at_ < (d.get f).now.size) :
    Calls Try.prog 33 #[.pointer (some ⟨b, 0, none⟩), .int .i64 f, .int .i64 at_, .int .u8 (x.toNat : Int)] w fun e w' =>
      e = .returned (.bool true) ∧ Upd [b] w w' ∧ DiskAt w' b (d.set f ⟨spoilt (d.get f).now at_ x, spoilt (d.get f).now at_ x, false⟩) := by
  have hlt := hd.lt
  have hc := hd.cell
  simp only [DiskS.cells] at hc
  rcases (by omega : f = 0 ∨ f = 1 ∨ f = 2 ∨ f = 3) with rfl | rfl | rfl | rfl
  · have hsu : d.sureIt 0 = true := by simpa [DiskS.sureIt, FileS.safe, DiskS.get] using hsafe
    have hat' : at_ < d.f0.now.size := hat
    have hsm : d.f0.now.size ≤ 1099511627776 := (DiskS.get_small hs 0).1
    clear hat
    go_enter Try.func33, Try.ntmps33
    go_wp2_with fail
    refine (sure_any d 0 _ b hd).mono ?_
    rintro e w1 ⟨rfl, hu1⟩
    rw [hsu]
    have hd1 : DiskAt w1 b d := hd.upd hu1 (by simp)
    have hc1 := hd1.cell
    simp only [DiskS.cells] at hc1
    have hl1 := hd1.lt
    have HU1 := Lib.hid hu1
    have HD1 := Lib.hid hd1
    clear hc hu1 hsafe hsu hd hd1
    go_wp2_with (first | ((with_reducible refine wpList_conv_bytes rfl 9 47 5 _ rfl d.f0.now rfl Try.underlying9 Try.underlying47 Try.underlying5 ?_); intro k' c w2 hk1 hk2 hsc hu2 hb2 hz2; have hcx := hb2 at_ hat'; rw [Nat.zero_add] at hcx; have hzx := hz2 at_ hat'; have HB2 := Lib.hid hb2; generalize hy : d.f0.now.data.toList.getD at_ 0 = y at hcx; have HY := Lib.hid hy; clear hy; have HU2 := Lib.hid hu2; clear hb2 hz2 hu2) | (with_reducible refine wpList_conv_string rfl 47 9 5 _ rfl k' 0 _ _ (spoilt d.f0.now at_ x) rfl Try.underlying47 Try.underlying5 Try.underlying9 (spoilt_size _ _ _) (bytesAt_spoilt at_ x HB2.out hat' (by rw [HY.out, UInt8.toNat_xor, u8_xor_nat _ _ y.toNat_lt x.toNat_lt])) ?_) | fail)
    refine (settle_any d 0 (spoilt d.f0.now at_ x) _ b (Blk.set_other (HD1.out.upd HU2.out (by simp)) (by simp; omega) _) (by omega)).mono ?_
    rintro e w3 ⟨rfl, hu3, hd3⟩
    go_wp2
    go_ret
    exact ⟨rfl, ((HU1.out.mono (by simp)).trans ((HU2.out.mono (by simp)).setCell (.inr (by simp; omega)) _)).trans hu3, hd3⟩
  · have hsu : d.sureIt 1 = true := by simpa [DiskS.sureIt, FileS.safe, DiskS.get] using hsafe
    have hat' : at_ < d.f1.now.size := hat
    have hsm : d.f1.now.size ≤ 1099511627776 := (DiskS.get_small hs 1).1
    clear hat
    go_enter Try.func33, Try.ntmps33
    go_wp2_with fail
    refine (sure_any d 1 _ b hd).mono ?_
    rintro e w1 ⟨rfl, hu1⟩
    rw [hsu]
    have hd1 : DiskAt w1 b d := hd.upd hu1 (by simp)
    have hc1 := hd1.cell
    simp only [DiskS.cells] at hc1
    have hl1 := hd1.lt
    have HU1 := Lib.hid hu1
    have HD1 := Lib.hid hd1
    clear hc hu1 hsafe hsu hd hd1
    go_wp2_with (first | ((with_reducible refine wpList_conv_bytes rfl 9 47 5 _ rfl d.f1.now rfl Try.underlying9 Try.underlying47 Try.underlying5 ?_); intro k' c w2 hk1 hk2 hsc hu2 hb2 hz2; have hcx := hb2 at_ hat'; rw [Nat.zero_add] at hcx; have hzx := hz2 at_ hat'; have HB2 := Lib.hid hb2; generalize hy : d.f1.now.data.toList.getD at_ 0 = y at hcx; have HY := Lib.hid hy; clear hy; have HU2 := Lib.hid hu2; clear hb2 hz2 hu2) | (with_reducible refine wpList_conv_string rfl 47 9 5 _ rfl k' 0 _ _ (spoilt d.f1.now at_ x) rfl Try.underlying47 Try.underlying5 Try.underlying9 (spoilt_size _ _ _) (bytesAt_spoilt at_ x HB2.out hat' (by rw [HY.out, UInt8.toNat_xor, u8_xor_nat _ _ y.toNat_lt x.toNat_lt])) ?_) | fail)
    refine (settle_any d 1 (spoilt d.f1.now at_ x) _ b (Blk.set_other (HD1.out.upd HU2.out (by simp)) (by simp; omega) _) (by omega)).mono ?_
    rintro e w3 ⟨rfl, hu3, hd3⟩
    go_wp2
    go_ret
    exact ⟨rfl, ((HU1.out.mono (by simp)).trans ((HU2.out.mono (by simp)).setCell (.inr (by simp; omega)) _)).trans hu3, hd3⟩
  · have hsu : d.sureIt 2 = true := by simpa [DiskS.sureIt, FileS.safe, DiskS.get] using hsafe
    have hat' : at_ < d.f2.now.size := hat
    have hsm : d.f2.now.size ≤ 1099511627776 := (DiskS.get_small hs 2).1
    clear hat
    go_enter Try.func33, Try.ntmps33
    go_wp2_with fail
    refine (sure_any d 2 _ b hd).mono ?_
    rintro e w1 ⟨rfl, hu1⟩
    rw [hsu]
    have hd1 : DiskAt w1 b d := hd.upd hu1 (by simp)
    have hc1 := hd1.cell
    simp only [DiskS.cells] at hc1
    have hl1 := hd1.lt
    have HU1 := Lib.hid hu1
    have HD1 := Lib.hid hd1
    clear hc hu1 hsafe hsu hd hd1
    go_wp2_with (first | ((with_reducible refine wpList_conv_bytes rfl 9 47 5 _ rfl d.f2.now rfl Try.underlying9 Try.underlying47 Try.underlying5 ?_); intro k' c w2 hk1 hk2 hsc hu2 hb2 hz2; have hcx := hb2 at_ hat'; rw [Nat.zero_add] at hcx; have hzx := hz2 at_ hat'; have HB2 := Lib.hid hb2; generalize hy : d.f2.now.data.toList.getD at_ 0 = y at hcx; have HY := Lib.hid hy; clear hy; have HU2 := Lib.hid hu2; clear hb2 hz2 hu2) | (with_reducible refine wpList_conv_string rfl 47 9 5 _ rfl k' 0 _ _ (spoilt d.f2.now at_ x) rfl Try.underlying47 Try.underlying5 Try.underlying9 (spoilt_size _ _ _) (bytesAt_spoilt at_ x HB2.out hat' (by rw [HY.out, UInt8.toNat_xor, u8_xor_nat _ _ y.toNat_lt x.toNat_lt])) ?_) | fail)
    refine (settle_any d 2 (spoilt d.f2.now at_ x) _ b (Blk.set_other (HD1.out.upd HU2.out (by simp)) (by simp; omega) _) (by omega)).mono ?_
    rintro e w3 ⟨rfl, hu3, hd3⟩
    go_wp2
    go_ret
    exact ⟨rfl, ((HU1.out.mono (by simp)).trans ((HU2.out.mono (by simp)).setCell (.inr (by simp; omega)) _)).trans hu3, hd3⟩
  · have hsu : d.sureIt 3 = true := by simpa [DiskS.sureIt, FileS.safe, DiskS.get] using hsafe
    have hat' : at_ < d.f3.now.size := hat
    have hsm : d.f3.now.size ≤ 1099511627776 := (DiskS.get_small hs 3).1
    clear hat
    go_enter Try.func33, Try.ntmps33
    go_wp2_with fail
    refine (sure_any d 3 _ b hd).mono ?_
    rintro e w1 ⟨rfl, hu1⟩
    rw [hsu]
    have hd1 : DiskAt w1 b d := hd.upd hu1 (by simp)
    have hc1 := hd1.cell
    simp only [DiskS.cells] at hc1
    have hl1 := hd1.lt
    have HU1 := Lib.hid hu1
    have HD1 := Lib.hid hd1
    clear hc hu1 hsafe hsu hd hd1
    go_wp2_with (first | ((with_reducible refine wpList_conv_bytes rfl 9 47 5 _ rfl d.f3.now rfl Try.underlying9 Try.underlying47 Try.underlying5 ?_); intro k' c w2 hk1 hk2 hsc hu2 hb2 hz2; have hcx := hb2 at_ hat'; rw [Nat.zero_add] at hcx; have hzx := hz2 at_ hat'; have HB2 := Lib.hid hb2; generalize hy : d.f3.now.data.toList.getD at_ 0 = y at hcx; have HY := Lib.hid hy; clear hy; have HU2 := Lib.hid hu2; clear hb2 hz2 hu2) | (with_reducible refine wpList_conv_string rfl 47 9 5 _ rfl k' 0 _ _ (spoilt d.f3.now at_ x) rfl Try.underlying47 Try.underlying5 Try.underlying9 (spoilt_size _ _ _) (bytesAt_spoilt at_ x HB2.out hat' (by rw [HY.out, UInt8.toNat_xor, u8_xor_nat _ _ y.toNat_lt x.toNat_lt])) ?_) | fail)
    refine (settle_any d 3 (spoilt d.f3.now at_ x) _ b (Blk.set_other (HD1.out.upd HU2.out (by simp)) (by simp; omega) _) (by omega)).mono ?_
    rintro e w3 ⟨rfl, hu3, hd3⟩
    go_wp2
    go_ret
    exact ⟨rfl, ((HU1.out.mono (by simp)).trans ((HU2.out.mono (by simp)).setCell (.inr (by simp; omega)) _)).trans hu3, hd3⟩

theorem spoil_no (d : DiskS) (f at_ by_ : Int) (w : World) (b : Nat) (hd : DiskAt w b d) (hs : d.small) (h : d.sureIt f = false ∨ at_ < 0 ∨ ((d.get f.toNat).now.size : Int) ≤ at_) :
    Calls Try.prog 33 #[.pointer (some ⟨b, 0, none⟩), .int .i64 f, .int .i64 at_, .int .u8 by_] w fun e w' =>
      e = .returned (.bool false) ∧ Upd [] w w' := by
  by_cases h0 : d.sureIt f = false
  · go_enter Try.func33, Try.ntmps33
    go_wp2_with fail
    refine (sure_any d f _ b hd).mono ?_
    rintro e w1 ⟨rfl, hu1⟩
    rw [h0]
    go_wp2
    go_ret
    exact ⟨rfl, hu1⟩
  · by_cases h1 : at_ < 0
    · go_enter Try.func33, Try.ntmps33
      go_wp2_with fail
      refine (sure_any d f _ b hd).mono ?_
      rintro e w1 ⟨rfl, hu1⟩
      rw [show d.sureIt f = true by simpa using h0]
      clear h0 h
      go_wp2
      go_ret
      exact ⟨rfl, hu1⟩
    · have hh : ((d.get f.toNat).now.size : Int) ≤ at_ := by
        rcases h with h | h | h
        · exact absurd h h0
        · exact absurd h h1
        · exact h
      have hf : 0 ≤ f ∧ f < 4 := by
        by_cases hf : 0 ≤ f ∧ f < 4
        · exact hf
        · simp [DiskS.sureIt, hf] at h0
      have h0' : d.sureIt f = true := by simpa using h0
      clear h0 h
      obtain ⟨i, rfl⟩ : ∃ i : Nat, f = i := ⟨f.toNat, by omega⟩
      rcases (by omega : i = 0 ∨ i = 1 ∨ i = 2 ∨ i = 3) with rfl | rfl | rfl | rfl
      · have hh' : (d.f0.now.size : Int) ≤ at_ := hh
        have hsm : d.f0.now.size ≤ 1099511627776 := (DiskS.get_small hs 0).1
        clear hh hf
        go_enter Try.func33, Try.ntmps33
        go_wp2_with fail
        refine (sure_any d 0 _ b hd).mono ?_
        rintro e w1 ⟨rfl, hu1⟩
        rw [show d.sureIt 0 = true from h0']
        have hc1 := (hd.upd hu1 (by simp)).cell
        simp only [DiskS.cells] at hc1
        clear h0' hd
        go_wp2
        go_ret
        exact ⟨rfl, hu1⟩
      · have hh' : (d.f1.now.size : Int) ≤ at_ := hh
        have hsm : d.f1.now.size ≤ 1099511627776 := (DiskS.get_small hs 1).1
        clear hh hf
        go_enter Try.func33, Try.ntmps33
        go_wp2_with fail
        refine (sure_any d 1 _ b hd).mono ?_
        rintro e w1 ⟨rfl, hu1⟩
        rw [show d.sureIt 1 = true from h0']
        have hc1 := (hd.upd hu1 (by simp)).cell
        simp only [DiskS.cells] at hc1
        clear h0' hd
        go_wp2
        go_ret
        exact ⟨rfl, hu1⟩
      · have hh' : (d.f2.now.size : Int) ≤ at_ := hh
        have hsm : d.f2.now.size ≤ 1099511627776 := (DiskS.get_small hs 2).1
        clear hh hf
        go_enter Try.func33, Try.ntmps33
        go_wp2_with fail
        refine (sure_any d 2 _ b hd).mono ?_
        rintro e w1 ⟨rfl, hu1⟩
        rw [show d.sureIt 2 = true from h0']
        have hc1 := (hd.upd hu1 (by simp)).cell
        simp only [DiskS.cells] at hc1
        clear h0' hd
        go_wp2
        go_ret
        exact ⟨rfl, hu1⟩
      · have hh' : (d.f3.now.size : Int) ≤ at_ := hh
        have hsm : d.f3.now.size ≤ 1099511627776 := (DiskS.get_small hs 3).1
        clear hh hf
        go_enter Try.func33, Try.ntmps33
        go_wp2_with fail
        refine (sure_any d 3 _ b hd).mono ?_
        rintro e w1 ⟨rfl, hu1⟩
        rw [show d.sureIt 3 = true from h0']
        have hc1 := (hd.upd hu1 (by simp)).cell
        simp only [DiskS.cells] at hc1
        clear h0' hd
        go_wp2
        go_ret
        exact ⟨rfl, hu1⟩
end Go.Proofs.Ytjaoiaknglnomaa
