/-
  The law TwinKeeps of layer 12 (chatelainelaw12.TwinKeeps), walked: it answers true. Condition: the two lists read as lists.
-/
import Derived.Test.YtjaoiaknglnomaaPlain12k
import Derived.Deep.DeepCutAuto
set_option linter.unusedVariables false
set_option linter.unusedSimpArgs false
set_option maxRecDepth 100000
namespace Go.Proofs.Ytjaoiaknglnomaa
open Go.RowKit

/-- The loop's state: so many whole writes, none failed yet. -/
structure Whole (j : Nat) (S o : List UInt8) (F : Int) : Prop where
  short : S.length ≤ 40
  len : o.length ≤ 110
  zero : j = 0 → o = [] ∧ S = []
  more : j ≠ 0 → o = spellL j S
  low : 1 ≤ F
  high : F ≤ 61
theorem whole_torn {j : Nat} {S o : List UInt8} {F : Int} (h : Whole j S o F) (hj : j ≤ 12) : Torn (twoD (sureF o) (sureF o) F) S S :=
  ⟨j, o, F, hj, h.short, h.short, h.len, by have := h.low; omega, h.high, h.zero, h.more, .inl rfl⟩
/-- A write of the loop: it is whole, or it is cut off. -/
theorem whole_write {j : Nat} {S o : List UInt8} {F : Int} (h : Whole j S o F) (hj : j < 12) (s : List UInt8) (hs : s.length ≤ 40) :
    (∃ o2, (twoD (sureF o) (sureF o) F).writeIt 0 j s = (0, twoD (sureF o2) (sureF o2) (F - 4), j + 1) ∧ Whole (j + 1) s o2 (F - 4)) ∨
    (∃ D, (twoD (sureF o) (sureF o) F).writeIt 0 j s = (8, D, j) ∧ Torn D S s) := by
  have hw := write_fail o F j s h.low h.len hs
  have hl := spellL_short (j + 1) s hs
  have hlo := h.low
  have hhi := h.high
  by_cases h1 : F = 1
  · rw [if_pos h1] at hw
    exact .inr ⟨_, hw, j, o, 0, by omega, h.short, hs, h.len, by omega, by omega, h.zero, h.more, .inl rfl⟩
  · rw [if_neg h1] at hw
    by_cases h2 : F = 2
    · rw [if_pos h2] at hw
      exact .inr ⟨_, hw, j, o, 0, by omega, h.short, hs, h.len, by omega, by omega, h.zero, h.more, .inr (.inl rfl)⟩
    · rw [if_neg h2] at hw
      by_cases h3 : F = 3
      · rw [if_pos h3] at hw
        exact .inr ⟨_, hw, j, o, 0, by omega, h.short, hs, h.len, by omega, by omega, h.zero, h.more, .inr (.inr (.inl rfl))⟩
      · rw [if_neg h3] at hw
        by_cases h4 : F = 4
        · rw [if_pos h4] at hw
          exact .inr ⟨_, hw, j, o, 0, by omega, h.short, hs, h.len, by omega, by omega, h.zero, h.more, .inr (.inr (.inr rfl))⟩
        · rw [if_neg h4] at hw
          exact .inl ⟨_, hw, hs, hl, fun e => by omega, fun _ => rfl, by omega, by omega⟩
theorem ints_take {B n c m : Nat} {a : Option Addr} {w : World} {cs : List Int} (h : IntsAt B w (.slice a n c) cs) (hm : m ≤ n) : IntsAt B w (.slice a m c) (cs.take m) := by
  obtain ⟨a', c', he, h2, h3, h4⟩ := h
  injection he with e1 e2 e3
  subst e1 e2 e3
  refine ⟨a, c, ?_, ?_, h3, fun hne => ?_⟩
  · rw [List.length_take, Nat.min_eq_left hm]
  · rw [List.length_take]; omega
  · obtain ⟨k, o, q1, q2, q3, q4⟩ := h4 (by intro e; rw [e] at hne; simp at hne)
    refine ⟨k, o, q1, q2, q3, fun i hi => ?_⟩
    rw [List.length_take] at hi
    have hi2 : i < cs.length := by omega
    rw [q4 i hi2]
    simp [List.getD, List.getElem?_take, show i < m by omega]

set_option maxHeartbeats 4000000 in
theorem keeps12_law (v1 v2 : Value) (n1 : Nat) (f : Nat → List UInt8) (fail : Int) (cs : List Int) (w : World) (h1 : StrsAt w.heap.size w v1 n1 f) (h2 : ∀ b, w.heap.size ≤ b → IntsAt b w v2 cs) :
    Calls Try.prog 9 #[v1, .int .i64 fail, v2] w fun e w' => e = .returned (.bool true) ∧ Upd [] w w' := by
  obtain ⟨a1, c1, rfl, hc1, hm1, he1⟩ := h1
  have hx2 := h2 w.heap.size (Nat.le_refl _)
  obtain ⟨a2, c2, rfl, hc2, hm2, -⟩ := hx2
  have HE1 := hd he1
  have HI := hd h2
  clear he1 h2
  obtain ⟨n2, hn2⟩ : ∃ n, n = cs.length := ⟨_, rfl⟩
  rw [← hn2] at HI hc2 ⊢
  have hn2' := hd hn2
  clear hn2
  go_enter Try.func9, Try.ntmps9
  go_wp2_with fail
  refine (awake12_any w).mono ?_
  rintro e w1 ⟨rfl, hu1⟩
  have HU1 := hd hu1
  clear hu1
  go_upto_if 25 with fail
  go_cut [2] (fun s2 wx => ∃ (m : Nat) (cs2 : List Int), s2 = .slice a2 m c2 ∧ (∀ b, w.heap.size ≤ b → IntsAt b w (.slice a2 m c2) cs2) ∧ wx = w1)
  case first =>
    by_cases h6 : 6 < n2
    · have h6' : (6 : Int) < (n2 : Int) := by omega
      go_wp2_with fail
      go_meet
      case rel => exact ⟨6, cs.take 6, rfl, fun b hb => ints_take (HI.out b hb) (by omega), rfl⟩
    · have h6' : ¬ (6 : Int) < (n2 : Int) := by omega
      go_wp2_with fail
      go_meet
      case rel => exact ⟨n2, cs, rfl, HI.out, rfl⟩
  case rest =>
    obtain ⟨m2, cs2, rfl, hi2, rfl⟩ := hcut
    have HI2 := hd hi2
    clear hi2 HI hn2'
    go_wp2_with fail
    refine (new_any 10000 wc).mono ?_
    rintro e w2 ⟨b, rfl, hb, hu2, hd2⟩
    have hd2 : DiskAt w2 b (bareD 10000) := hd2
    have HB := hd (Nat.le_trans HU1.out.size hb)
    have HU2 := hd (HU1.out.trans hu2)
    have HD2 := hd hd2
    clear hb hu2 hd2
    go_wp2_with fail
    refine (topen_any (bareD 10000) 0 b w2 HD2.out bare_cozy.fine (by decide) (by decide)).mono ?_
    rintro e w3 ⟨ho, hu3, hd3⟩
    have hbo : (bareD 10000).openIt 0 = (some 0, [], 0, bareD 10000) := bare_open 10000 0 (by decide)
    rw [hbo] at ho hd3
    obtain ⟨kc, hkc, rfl, hc3⟩ := ho
    have HKC := hd (Nat.le_trans HU2.out.size hkc)
    have HU3 := hd (HU2.out.trans' hu3 (by intro i hi; have := HB.out; simp at hi; omega))
    have HD3 := hd hd3
    have HC3 := hd hc3
    clear hkc hu3 hd3 hc3 hbo HU1 HU2 HD2
    go_upto_region 10 with fail
    go_cut [] (fun wx => ∃ F : Int, 1 ≤ F ∧ F ≤ 61 ∧ Upd [] w wx ∧ DiskAt wx b (twoD (sureF []) (sureF []) F) ∧ CellAt wx kc b 0 0)
    case first =>
      have key : ∀ (q : Int) (W : World), 0 ≤ q → q ≤ 60 → Upd [b] w3 W → DiskAt W b { bareD 10000 with fail := max (min q 1073741824) (-1) + 1 } → ∃ F : Int, 1 ≤ F ∧ F ≤ 61 ∧ Upd [] w W ∧ DiskAt W b (twoD (sureF []) (sureF []) F) ∧ CellAt W kc b 0 0 := fun q W h0 h1 hu hD => by
        refine ⟨max (min q 1073741824) (-1) + 1, by omega, by omega, HU3.out.trans' hu (by intro i hi; have := HB.out; simp at hi; omega), hD, HC3.out.upd hu ?_⟩
        have hne : kc ≠ b := blk_ne HC3.out HD3.out (by decide)
        simpa using hne
      have HKEY := hd key
      clear key
      rcases (by omega : fail < 0 ∨ fail = 0 ∨ (0 < fail ∧ fail < 60) ∨ fail = 60 ∨ 60 < fail) with h | rfl | ⟨h, h'⟩ | rfl | h
      · go_wp2_with fail
        refine (fail_any (bareD 10000) 0 w3 b HD3.out).mono ?_
        rintro e w4 ⟨rfl, hu4, hd4⟩
        go_wp2_with fail
        go_meet
        case rel => exact HKEY.out 0 w4 (by decide) (by decide) hu4 hd4
      · go_wp2_with fail
        refine (fail_any (bareD 10000) 0 w3 b HD3.out).mono ?_
        rintro e w4 ⟨rfl, hu4, hd4⟩
        go_wp2_with fail
        go_meet
        case rel => exact HKEY.out 0 w4 (by decide) (by decide) hu4 hd4
      · go_wp2_with fail
        refine (fail_any (bareD 10000) fail w3 b HD3.out).mono ?_
        rintro e w4 ⟨rfl, hu4, hd4⟩
        go_wp2_with fail
        go_meet
        case rel => exact HKEY.out fail w4 (by omega) (by omega) hu4 hd4
      · go_wp2_with fail
        refine (fail_any (bareD 10000) 60 w3 b HD3.out).mono ?_
        rintro e w4 ⟨rfl, hu4, hd4⟩
        go_wp2_with fail
        go_meet
        case rel => exact HKEY.out 60 w4 (by decide) (by decide) hu4 hd4
      · go_wp2_with fail
        refine (fail_any (bareD 10000) 60 w3 b HD3.out).mono ?_
        rintro e w4 ⟨rfl, hu4, hd4⟩
        go_wp2_with fail
        go_meet
        case rel => exact HKEY.out 60 w4 (by decide) (by decide) hu4 hd4
    case rest =>
      obtain ⟨F, hF1, hF2, hu4, hd4, hc4⟩ := hcut
      have HF := hd (show Whole 0 [] [] F from ⟨by simp, by simp, fun _ => ⟨rfl, rfl⟩, fun h => absurd rfl h, hF1, hF2⟩)
      have HU4 := hd hu4
      have HD4 := hd hd4
      have HC4 := hd hc4
      clear hF1 hF2 hu4 hd4 hc4 HU3 HD3 HC3
      go_upto_block 0 with fail
      go_cut [11, 12] (fun s11 s12 wx => ∃ (S T : List UInt8) (D : DiskS), s11 = .string (txt S) ∧ s12 = .string (txt T) ∧ Upd [] w wx ∧ DiskAt wx b D ∧ Torn D S T)
      case first =>
        go_wp2_with fail
        go_loopw [11, 12, 13] (fun s11 s12 i wr => ∃ (j : Nat) (S o : List UInt8) (F : Int), j ≤ 12 ∧ s11 = .string (txt S) ∧ s12 = .string (txt S) ∧ i = .int .i64 j ∧ Upd [] w wr ∧ DiskAt wr b (twoD (sureF o) (sureF o) F) ∧ CellAt wr kc b 0 j ∧ Whole j S o F) (fun _ _ i _ => 12 - (intOf i).toNat)
        case atStart => exact ⟨0, [], [], F, by omega, rfl, rfl, rfl, HU4.out, HD4.out, HC4.out, HF.out⟩
        case round =>
          obtain ⟨j, S, o, F2, hj, rfl, rfl, rfl, hu, hD, hC, hZ⟩ := hrel
          have HU := hd hu
          have HD := hd hD
          have HC := hd hC
          have HZ := hd hZ
          have HK := HKC.out
          by_cases hn : j < n1
          · have hn' : (j : Int) < (n1 : Int) := by omega
            obtain ⟨k1, o1, rfl, hk1, hel⟩ := HE1.out (by omega)
            obtain ⟨hcell, hlen⟩ := hel j hn
            have hcw : wr.cell? ⟨k1, o1 + j, none⟩ = some (.string (txt (f j))) := (World.cell?_of_block (hu.block k1 hk1 (by simp))).trans hcell
            clear hu hD hC hZ hel hcell
            by_cases h12 : j < 12
            · have h12' : (j : Int) < 12 := by omega
              have HS := hd (show ((f j).take 40).length ≤ 40 by rw [List.length_take]; omega)
              go_wp2_with fail
              refine (cut_any (f j) 40 wr hlen (by decide)).mono ?_
              rintro e w4 ⟨rfl, rfl⟩
              generalize (f j).take 40 = S2 at *
              have HWR := hd (whole_write HZ.out h12 S2 HS.out)
              have HFI := hd (show (twoD (sureF o) (sureF o) F2).fine from two_fine _ _ _ (sure_small o (by have := HZ.out.len; omega)) (sure_small o (by have := HZ.out.len; omega)) (by have := HZ.out.low; omega) (by have := HZ.out.high; omega))
              go_wp2_with fail
              refine (cwrite_any (twoD (sureF o) (sureF o) F2) 0 j S2 kc b wr HD.out HC.out HFI.out (by decide) (by decide) (by omega) (by have := HS.out; omega)).mono ?_
              rintro e w5 ⟨rfl, hu5, hd5, hc5⟩
              have HU5 := hd (HU.out.trans' hu5 (by intro i hi; have := HB.out; have := HKC.out; simp at hi; omega))
              rcases HWR.out with ⟨o2, hw, hz2⟩ | ⟨D2, hw, ht2⟩
              · rw [hw] at hd5 hc5 ⊢
                have HD5 := hd hd5
                have HC5 := hd hc5
                have HZ5 := hd hz2
                clear hu5 hd5 hc5 hw hz2
                go_wp2_with fail
                go_roundw
                case rel => exact ⟨j + 1, S2, o2, F2 - 4, by omega, rfl, rfl, by go_num, HU5.out, HD5.out, HC5.out, HZ5.out⟩
                case measure => simp [intOf]; omega
              · rw [hw] at hd5 hc5 ⊢
                have HD5 := hd hd5
                have HT5 := hd ht2
                clear hu5 hd5 hc5 hw ht2
                go_wp2_with fail
                go_meet
                case rel => exact ⟨S, S2, D2, rfl, rfl, HU5.out, HD5.out, HT5.out⟩
            · obtain rfl : j = 12 := by omega
              go_wp2_with fail
              go_meet
              case rel => exact ⟨S, S, _, rfl, rfl, HU.out, HD.out, whole_torn HZ.out (by omega)⟩
          · have hn' : ¬ (j : Int) < (n1 : Int) := by omega
            clear hu hD hC hZ
            go_wp2_with fail
            go_meet
            case rel => exact ⟨S, S, _, rfl, rfl, HU.out, HD.out, whole_torn HZ.out hj⟩
      case rest =>
        obtain ⟨S, T, D, rfl, rfl, hu5, hd5, ht⟩ := hcut
        obtain ⟨hf, hok, hf6, v, v2, s, D1, D2, ho1, hst, hf1, hok1, hag⟩ := torn_heals D S T cs2 ht
        have HU5 := hd hu5
        have HD5 := hd hd5
        have HF5 := hd hf
        have HOK := hd hok
        have HF6 := hd hf6
        have HO1 := hd ho1
        have HST := hd hst
        have HF1 := hd hf1
        have HOK1 := hd hok1
        have HAG := hd hag
        clear hu5 hd5 ht hf hok hf6 ho1 hst hf1 hok1 hag HU4 HD4 HC4 HF
        go_wp2_with fail
        refine (crash_any D _ cs2 wc b HD5.out HF5.out.small HOK.out ((HI2.out b HB.out).upd HU5.out (by simp))).mono ?_
        rintro e w6 ⟨rfl, hu6, hd6⟩
        generalize D.crashIt cs2 = D6 at *
        have HU6 := hd (HU5.out.trans' hu6 (by intro i hi; have := HB.out; simp at hi; omega))
        have HD6 := hd hd6
        clear hu6 hd6
        go_wp2_with fail
        refine (topen_any D6 0 b w6 HD6.out HF6.out (by decide) (by decide)).mono ?_
        rintro e w7 ⟨ho, hu7, hd7⟩
        rw [HO1.out] at ho hd7
        obtain ⟨kd, hkd, rfl, hc7⟩ := ho
        have HU7 := hd (HU6.out.trans' hu7 (by intro i hi; have := HB.out; simp at hi; omega))
        have HD7 := hd hd7
        clear hkd hu7 hd7 hc7
        have hsb : ((txt s).toList == (txt S).toList) = true ∨ (((txt s).toList == (txt S).toList) = false ∧ ((txt s).toList == (txt T).toList) = true) := by
          rw [txt_list, txt_list, txt_list]
          by_cases h : s = S
          · left; simpa using h
          · right
            refine ⟨by simpa using h, ?_⟩
            rcases HST.out with h1 | h1
            · exact absurd h1 h
            · simpa using h1
        go_upto_region 23 with fail
        go_cut [90] (fun c wx => c = .bool false ∧ wx = w7)
        case first =>
          rcases hsb with h | ⟨h, h'⟩
          · go_wp2_with fail
            go_meet
            case rel => exact ⟨rfl, rfl⟩
          · go_wp2_with fail
            go_meet
            case rel => exact ⟨rfl, rfl⟩
        case rest =>
          obtain ⟨rfl, rfl⟩ := hcut
          clear hsb
          go_wp2_with fail
          refine (crash_any D1 _ [] wc b HD7.out HF1.out.small HOK1.out ⟨none, 0, rfl, by simp, by omega, by simp⟩).mono ?_
          rintro e w8 ⟨rfl, hu8, hd8⟩
          obtain ⟨hf8, ho8⟩ := HAG.out []
          have HO8 := hd ho8
          have HF8 := hd hf8
          clear ho8 hf8
          generalize D1.crashIt [] = D8 at *
          have HU8 := hd (HU7.out.trans' hu8 (by intro i hi; have := HB.out; simp at hi; omega))
          have HD8 := hd hd8
          clear hu8 hd8
          go_wp2_with fail
          refine (topen_any D8 0 b w8 HD8.out HF8.out (by decide) (by decide)).mono ?_
          rintro e w9 ⟨ho, hu9, hd9⟩
          rw [HO8.out] at ho hd9
          obtain ⟨ke, hke, rfl, hc9⟩ := ho
          have HU9 := hd (HU8.out.trans' hu9 (by intro i hi; have := HB.out; simp at hi; omega))
          clear hke hu9 hd9 hc9
          go_wp2_with fail
          go_ret
          exact ⟨rfl, HU9.out⟩
end Go.Proofs.Ytjaoiaknglnomaa
