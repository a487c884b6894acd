/-
  The law TwinSpoilt of layer 12 (chatelainelaw12.TwinSpoilt), walked: it answers true. Condition: the list reads as a list.
-/
import Derived.Test.YtjaoiaknglnomaaCounts12
import Derived.Test.YtjaoiaknglnomaaPlain12k
import Derived.Deep.DeepCutAuto
set_option linter.unusedVariables false
set_option linter.unusedSimpArgs false
set_option maxRecDepth 100000
namespace Go.Proofs.Ytjaoiaknglnomaa
open Go.RowKit

/-- A disk of which the last two files are used. -/
def twoE (x y : FileS) : DiskS := ⟨sureF [], sureF [], x, y, 10000, 0⟩
theorem twoE_fine (x y : FileS) (hx : x.small) (hy : y.small) : (twoE x y).fine :=
  ⟨⟨sure_small [] (by simp), sure_small [] (by simp), hx, hy⟩, (by decide : (10000 : Int) ≤ 1099511627776), (by decide : (0 : Int) ≤ 0), (by decide : (0 : Int) ≤ 1073741825)⟩
theorem twoE_used (x y : FileS) : (twoE x y).used = x.weight + y.weight := by
  simp [twoE, DiskS.used, FileS.weight, sureF]
theorem twoE_file2 (x : List UInt8) (y : FileS) : (twoE (sureF x) y).file (2 : Nat) = x := by
  rw [file_get _ _ (by omega)]; simp [twoE, DiskS.get, sureF, txt]
theorem twoE_file3 (x : FileS) (y : List UInt8) : (twoE x (sureF y)).file (((2 : Nat) : Int) + 1) = y := by
  rw [show (((2 : Nat) : Int) + 1) = ((3 : Nat) : Int) by omega, file_get _ _ (by omega)]; simp [twoE, DiskS.get, sureF, txt]
theorem twoE_write (o : List UInt8) (ver : Nat) (s : List UInt8) (ho : o.length ≤ 110) (hs : s.length ≤ 40) :
    (twoE (sureF o) (sureF o)).writeIt (2 : Nat) ver s = (0, twoE (sureF (spellL (ver + 1) s)) (sureF (spellL (ver + 1) s)), ver + 1) := by
  have hl := spellL_short (ver + 1) s hs
  have hu := twoE_used (sureF o) (sureF o)
  rw [weight_sure] at hu
  exact write_ok (twoE (sureF o) (sureF o)) 2 ver s (by decide) (by omega) rfl (by rw [hu, show (twoE (sureF o) (sureF o)).room = 10000 from rfl]; omega)
theorem twoE_open (v : Nat) (s : List UInt8) (hv : v < 18446744073709551616) (hv0 : v ≠ 0) (hs : s.length ≤ 40) :
    (twoE (sureF (spellL v s)) (sureF (spellL v s))).openIt (2 : Nat) = (some v, s, 0, twoE (sureF (spellL v s)) (sureF (spellL v s))) :=
  open_wrote (twoE (sureF (spellL v s)) (sureF (spellL v s))) 2 v s (by decide) hv hv0 (by omega)
theorem spoilt_txt (N : List UInt8) (i : Nat) (x : UInt8) : spoilt (txt N) i x = txt (N.set i (N.getD i 0 ^^^ x)) := by
  simp [spoilt, txt]
theorem turn_none (N : List UInt8) (i : Nat) (hi : i < N.length) : N.set i (N.getD i 0 ^^^ 0) = N := by
  have : N.getD i 0 = N[i] := by simp [List.getD, hi]
  rw [this, UInt8.xor_zero, List.set_getElem_self]
/-- Whichever file is spoilt, Open answers the text. -/
theorem spoilt_open (v : Nat) (s : List UInt8) (k i : Nat) (x : UInt8) (hk : k = 2 ∨ k = 3) (hv : v < 18446744073709551616) (hv0 : v ≠ 0) (hs : s.length ≤ 40) (hi : i < (spellL v s).length) (D' : DiskS)
    (hD : D' = (twoE (sureF (spellL v s)) (sureF (spellL v s))).set k ⟨spoilt (txt (spellL v s)) i x, spoilt (txt (spellL v s)) i x, false⟩) :
    D'.fine ∧ ∃ D'', D'.openIt (2 : Nat) = (some v, s, 0, D'') := by
  have hl := spellL_short v s hs
  have hp := parse_spell v s hv hv0 (by omega)
  rw [spoilt_txt] at hD
  obtain ⟨M, hM⟩ : ∃ M, M = (spellL v s).set i ((spellL v s).getD i 0 ^^^ x) := ⟨_, rfl⟩
  rw [← hM] at hD
  have hMl : M.length = (spellL v s).length := by rw [hM, List.length_set]
  have hpM : x ≠ 0 → parseL M = ⟨0, [], true⟩ := fun hx => by rw [hM]; exact parse_turned v s i x (by omega) hi hx
  have hM0 : x = 0 → M = spellL v s := fun hx => by rw [hM, hx]; exact turn_none _ _ hi
  have hsm := sure_small (spellL v s) (by omega)
  have hsM := sure_small M (by omega)
  rcases hk with rfl | rfl
  · have e : D' = twoE (sureF M) (sureF (spellL v s)) := hD
    subst e
    refine ⟨twoE_fine _ _ hsM hsm, ?_⟩
    by_cases hx : x = 0
    · rw [hM0 hx]; exact ⟨_, twoE_open v s hv hv0 hs⟩
    · exact ⟨_, open_second (twoE (sureF M) (sureF (spellL v s))) 2 v s true (by decide) (by rw [twoE_file2]; exact hpM hx) (by rw [twoE_file3]; exact hp) hv0 rfl (by
        rw [twoE_used, weight_sure, weight_sure, show (twoE (sureF M) (sureF (spellL v s))).room = 10000 from rfl]; omega)⟩
  · have e : D' = twoE (sureF (spellL v s)) (sureF M) := hD
    subst e
    refine ⟨twoE_fine _ _ hsm hsM, ?_⟩
    by_cases hx : x = 0
    · rw [hM0 hx]; exact ⟨_, twoE_open v s hv hv0 hs⟩
    · exact ⟨_, open_first (twoE (sureF (spellL v s)) (sureF M)) 2 v s ⟨0, [], true⟩ (by decide) (by rw [twoE_file2]; exact hp) (by rw [twoE_file3]; exact hpM hx) (by simp only; omega) rfl (by
        rw [twoE_used, weight_sure, weight_sure, show (twoE (sureF (spellL v s)) (sureF M)).room = 10000 from rfl]; omega)⟩

/-- What the loop of writes leaves. -/
structure WroteSo (j : Nat) (S o : List UInt8) : Prop where
  short : S.length ≤ 40
  len : o.length ≤ 110
  zero : j = 0 → o = []
  more : j ≠ 0 → o = spellL j S

set_option maxHeartbeats 4000000 in
theorem spoilt_law (v1 : Value) (n1 : Nat) (f : Nat → List UInt8) (wh : Bool) (at_ : Int) (x : UInt8) (w : World) (h1 : StrsAt w.heap.size w v1 n1 f) :
    Calls Try.prog 7 #[.agg #[v1, .bool wh, .int .i64 at_, .int .u8 (x.toNat : Int)]] w fun e w' => e = .returned (.bool true) ∧ Upd [] w w' := by
  obtain ⟨a1, c1, rfl, hc1, hm1, he1⟩ := h1
  have HE1 := hd he1
  clear he1
  have hx256 : x.toNat < 256 := x.toNat_lt
  have e0 : ∃ W, w.alloc (.cells #[.slice a1 n1 c1, .bool wh, .int .i64 at_, .int .u8 (x.toNat : Int)] 62) = W ∧ Upd [] w W ∧ Blk W w.heap.size #[.slice a1 n1 c1, .bool wh, .int .i64 at_, .int .u8 (x.toNat : Int)] 62 := ⟨_, rfl, (Upd.refl _ _).alloc _, Blk.new _ _ _⟩
  go_enter Try.func7, Try.ntmps7
  go_upto_region 1 with fail
  obtain ⟨W0, hW0, hu0, hB0⟩ := e0
  rw [hW0]
  have HU0 := hd hu0
  have HB0 := hd hB0
  clear hW0 hu0 hB0
  go_wp2_with fail
  refine (awake12_any W0).mono ?_
  rintro e w1 ⟨rfl, hu1⟩
  have HB1 := hd (HB0.out.upd hu1 (by simp))
  have HU1 := hd (HU0.out.trans hu1)
  clear hu1 HU0 HB0
  go_upto_region 3 with fail
  go_cut [3, 4, 5, 6] (fun s3 s4 s5 s6 wx => s3 = .slice a1 n1 c1 ∧ s4 = .bool wh ∧ s5 = .int .i64 at_ ∧ s6 = .int .u8 (x.toNat : Int) ∧ Upd [] w wx)
  case first =>
    have hbc := HB1.out.cell
    go_region_with fail
    all_goals
      go_wp2_with fail
      go_meet
      case rel =>
        first
        | exact ⟨rfl, rfl, rfl, rfl, HU1.out⟩
        | exact ⟨rfl, rfl, rfl, rfl, HU1.out.drew⟩
  case rest =>
    obtain ⟨rfl, rfl, rfl, rfl, hu⟩ := hcut
    have HU2 := hd hu
    clear hu HB1 HU1
    go_wp2_with fail
    refine (new_any 10000 wc).mono ?_
    rintro e w2 ⟨b, rfl, hb, hu2, hd2⟩
    have hd2 : DiskAt w2 b (twoE (sureF []) (sureF [])) := hd2
    have HB := hd (Nat.le_trans HU2.out.size hb)
    have HU3 := hd (HU2.out.trans hu2)
    have HD2 := hd hd2
    clear hb hu2 hd2 HU2
    go_wp2_with fail
    refine (topen_any (bareD 10000) 2 b w2 HD2.out bare_cozy.fine (by decide) (by decide)).mono ?_
    rintro e w3 ⟨ho, hu3, hd3⟩
    have hbo : (bareD 10000).openIt 2 = (some 0, [], 0, bareD 10000) := bare_open 10000 2 (by decide)
    rw [hbo] at ho hd3
    obtain ⟨kc, hkc, rfl, hc3⟩ := ho
    have hd3 : DiskAt w3 b (twoE (sureF []) (sureF [])) := hd3
    have HKC := hd (Nat.le_trans HU3.out.size hkc)
    have HU4 := hd (HU3.out.trans' hu3 (by intro i hi; have := HB.out; simp at hi; omega))
    have HD3 := hd hd3
    have HC3 := hd hc3
    clear hkc hu3 hd3 hc3 hbo HU3 HD2
    go_upto_block 0 with fail
    go_cut [11, 12] (fun s n wx => ∃ (j : Nat) (S o : List UInt8), j ≤ 6 ∧ s = .string (txt S) ∧ n = .int .i64 j ∧ Upd [] w wx ∧ DiskAt wx b (twoE (sureF o) (sureF o)) ∧ CellAt wx kc b 2 j ∧ WroteSo j S o)
    case first =>
      go_wp2_with fail
      go_loopw [11, 12, 13] (fun s n i wr => ∃ (j : Nat) (S o : List UInt8), j ≤ 6 ∧ s = .string (txt S) ∧ n = .int .i64 j ∧ i = .int .i64 j ∧ Upd [] w wr ∧ DiskAt wr b (twoE (sureF o) (sureF o)) ∧ CellAt wr kc b 2 j ∧ WroteSo j S o) (fun _ _ i _ => 6 - (intOf i).toNat)
      case atStart => exact ⟨0, [], [], by omega, rfl, rfl, rfl, HU4.out, HD3.out, HC3.out, ⟨by simp, by simp, fun _ => rfl, fun h => absurd rfl h⟩⟩
      case round =>
        obtain ⟨j, S, o, hj, rfl, rfl, rfl, hu, hD, hC, hZ⟩ := hrel
        have HU := hd hu
        have HD := hd hD
        have HC := hd hC
        have HZ := hd hZ
        have HK := HKC.out
        by_cases hn : j < n1
        · have hn' : (j : Int) < (n1 : Int) := by omega
          obtain ⟨k1, o1, rfl, hk1, hel⟩ := HE1.out (by omega)
          obtain ⟨hcell, hlen⟩ := hel j hn
          have hcw : wr.cell? ⟨k1, o1 + j, none⟩ = some (.string (txt (f j))) := (World.cell?_of_block (hu.block k1 hk1 (by simp))).trans hcell
          clear hu hD hC hZ hel hcell
          by_cases h12 : j < 6
          · have h12' : (j : Int) < 6 := by omega
            have HS := hd (show ((f j).take 40).length ≤ 40 by rw [List.length_take]; omega)
            go_wp2_with fail
            refine (cut_any (f j) 40 wr hlen (by decide)).mono ?_
            rintro e w4 ⟨rfl, rfl⟩
            generalize (f j).take 40 = S2 at *
            have HWR := hd (show (twoE (sureF o) (sureF o)).writeIt 2 j S2 = _ from twoE_write o j S2 HZ.out.len HS.out)
            have HZ2 := hd (show WroteSo (j + 1) S2 (spellL (j + 1) S2) from ⟨HS.out, spellL_short _ _ HS.out, fun h => by omega, fun _ => rfl⟩)
            have HFI := hd (show (twoE (sureF o) (sureF o)).fine from twoE_fine _ _ (sure_small o (by have := HZ.out.len; omega)) (sure_small o (by have := HZ.out.len; omega)))
            generalize spellL (j + 1) S2 = o2 at *
            go_wp2_with fail
            refine (cwrite_any (twoE (sureF o) (sureF o)) 2 j S2 kc b wr HD.out HC.out HFI.out (by decide) (by decide) (by omega) (by have := HS.out; omega)).mono ?_
            rintro e w5 ⟨rfl, hu5, hd5, hc5⟩
            rw [HWR.out] at hd5 hc5 ⊢
            have HU5 := hd (HU.out.trans' hu5 (by intro i hi; have := HB.out; have := HKC.out; simp at hi; omega))
            have HD5 := hd hd5
            have HC5 := hd hc5
            clear hu5 hd5 hc5
            go_wp2_with fail
            go_roundw
            case rel => exact ⟨j + 1, S2, o2, by omega, rfl, by go_num, by go_num, HU5.out, HD5.out, HC5.out, HZ2.out⟩
            case measure => simp [intOf]; omega
          · obtain rfl : j = 6 := by omega
            go_wp2_with fail
            go_meet
            case rel => exact ⟨6, S, o, by omega, rfl, rfl, HU.out, HD.out, HC.out, HZ.out⟩
        · have hn' : ¬ (j : Int) < (n1 : Int) := by omega
          clear hu hD hC hZ
          go_wp2_with fail
          go_meet
          case rel => exact ⟨j, S, o, hj, rfl, rfl, HU.out, HD.out, HC.out, HZ.out⟩
    case rest =>
      obtain ⟨j, S, o, hj, rfl, rfl, hu, hD, hC, hZ⟩ := hcut
      have HU := hd hu
      have HD := hd hD
      have HC := hd hC
      clear hu hD hC HU4 HD3 HC3 HE1
      by_cases hj0 : j = 0
      · subst hj0
        go_wp2_with fail
        refine (version_any kc b 2 0 _ HC.out).mono ?_
        rintro e w6 ⟨rfl, rfl⟩
        go_wp2_with fail
        go_ret
        exact ⟨rfl, HU.out⟩
      · obtain rfl := hZ.more hj0
        have hj0' : ((j : Int) == 0) = false := by simpa using hj0
        have hS := hZ.short
        have hl := hZ.len
        have hpos : 0 < (spellL j S).length := by simp [spellL, frameL, bodyL]
        have hfi := twoE_fine _ _ (sure_small (spellL j S) (by omega)) (sure_small (spellL j S) (by omega))
        have hr2 : (twoE (sureF (spellL j S)) (sureF (spellL j S))).readIt 2 = (txt (spellL j S), 0) := rfl
        have hr3 : (twoE (sureF (spellL j S)) (sureF (spellL j S))).readIt 3 = (txt (spellL j S), 0) := rfl
        have hsp := fun k i (hk : k = 2 ∨ k = 3) (hi : i < (spellL j S).length) D' hD => spoilt_open j S k i x hk (by omega) hj0 hS hi D' hD
        have hsy2 := fun i W (hD : DiskAt W b _) (hi : i < (spellL j S).length) => spoil_yes (twoE (sureF (spellL j S)) (sureF (spellL j S))) 2 i x W b hD hfi.small (by decide) (by simp [twoE, DiskS.get, sureF, FileS.safe]) (by simpa [twoE, DiskS.get, sureF] using hi)
        have hsy3 := fun i W (hD : DiskAt W b _) (hi : i < (spellL j S).length) => spoil_yes (twoE (sureF (spellL j S)) (sureF (spellL j S))) 3 i x W b hD hfi.small (by decide) (by simp [twoE, DiskS.get, sureF, FileS.safe]) (by simpa [twoE, DiskS.get, sureF] using hi)
        have hg2 : ((twoE (sureF (spellL j S)) (sureF (spellL j S))).get 2).now = txt (spellL j S) := rfl
        have hg3 : ((twoE (sureF (spellL j S)) (sureF (spellL j S))).get 3).now = txt (spellL j S) := rfl
        rw [hg2] at hsy2
        rw [hg3] at hsy3
        have HSY2 := hd hsy2
        have HSY3 := hd hsy3
        have HSP := hd hsp
        have HR2 := hd hr2
        have HR3 := hd hr3
        have HJ0 := hd hj0
        clear hsy2 hsy3 hsp hr2 hr3 hg2 hg3 hZ hj0 hfi
        generalize spellL j S = N at *
        have hNt : (txt N).size = N.length := by simp
        have e := tmod_range at_ (N.length : Int) (by omega) (by omega)
        have b0 := Int.emod_nonneg at_ (b := (N.length : Int)) (by omega)
        have b1 := Int.emod_lt_of_pos at_ (b := (N.length : Int)) (by omega)
        generalize at_ % (N.length : Int) = r at *
        obtain ⟨r, rfl⟩ : ∃ k : Nat, r = k := ⟨r.toNat, by omega⟩
        have hrl : r < N.length := by omega
        have hn0 : ¬ (N.length : Int) = 0 := by omega
        have HE := hd e
        clear e b0 b1
        rcases wh with _ | _
        · go_wp2_with fail
          refine (read_any _ 2 _ b HD.out).mono ?_
          rintro e w6 ⟨rfl, hu6⟩
          rw [HR2.out]
          have HU6 := hd (HU.out.trans hu6)
          have HD6 := hd (HD.out.upd hu6 (by simp))
          clear hu6
          have e := HE.out
          go_wp2_with fail
          refine (HSY2.out r w6 HD6.out hrl).mono ?_
          rintro e2 w7 ⟨rfl, hu7, hd7⟩
          obtain ⟨hf7, D2, hD2⟩ := HSP.out 2 r (.inl rfl) hrl _ rfl
          generalize DiskS.set _ 2 _ = D7 at *
          have HU7 := hd (HU6.out.trans' hu7 (by intro i hi; have := HB.out; simp at hi; omega))
          have HD7 := hd hd7
          have HO := hd (show D7.openIt 2 = _ from hD2)
          clear hu7 hd7 hD2 e
          go_wp2_with fail
          refine (topen_any D7 2 b w7 HD7.out hf7 (by decide) (by decide)).mono ?_
          rintro e w8 ⟨ho, hu8, hd8⟩
          rw [HO.out] at ho hd8
          obtain ⟨kd, hkd, rfl, hc8⟩ := ho
          have HU8 := hd (HU7.out.trans' hu8 (by intro i hi; have := HB.out; simp at hi; omega))
          have HC8 := hd hc8
          clear hkd hu8 hd8 hc8
          go_wp2_with fail
          refine (version_any kd b 2 j w8 HC8.out).mono ?_
          rintro e w9 ⟨rfl, rfl⟩
          go_wp2_with fail
          go_ret
          exact ⟨rfl, HU8.out⟩
        · go_wp2_with fail
          refine (read_any _ 3 _ b HD.out).mono ?_
          rintro e w6 ⟨rfl, hu6⟩
          rw [HR3.out]
          have HU6 := hd (HU.out.trans hu6)
          have HD6 := hd (HD.out.upd hu6 (by simp))
          clear hu6
          have e := HE.out
          go_wp2_with fail
          refine (HSY3.out r w6 HD6.out hrl).mono ?_
          rintro e2 w7 ⟨rfl, hu7, hd7⟩
          obtain ⟨hf7, D2, hD2⟩ := HSP.out 3 r (.inr rfl) hrl _ rfl
          generalize DiskS.set _ 3 _ = D7 at *
          have HU7 := hd (HU6.out.trans' hu7 (by intro i hi; have := HB.out; simp at hi; omega))
          have HD7 := hd hd7
          have HO := hd (show D7.openIt 2 = _ from hD2)
          clear hu7 hd7 hD2 e
          go_wp2_with fail
          refine (topen_any D7 2 b w7 HD7.out hf7 (by decide) (by decide)).mono ?_
          rintro e w8 ⟨ho, hu8, hd8⟩
          rw [HO.out] at ho hd8
          obtain ⟨kd, hkd, rfl, hc8⟩ := ho
          have HU8 := hd (HU7.out.trans' hu8 (by intro i hi; have := HB.out; simp at hi; omega))
          have HC8 := hd hc8
          clear hkd hu8 hd8 hc8
          go_wp2_with fail
          refine (version_any kd b 2 j w8 HC8.out).mono ?_
          rintro e w9 ⟨rfl, rfl⟩
          go_wp2_with fail
          go_ret
          exact ⟨rfl, HU8.out⟩
end Go.Proofs.Ytjaoiaknglnomaa
